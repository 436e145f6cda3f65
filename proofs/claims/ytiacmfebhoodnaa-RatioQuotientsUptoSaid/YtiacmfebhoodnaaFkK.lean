/- Fields, elements, calls; and all operations that write nothing that is there, together. -/
import Derived.Test.YtiacmfebhoodnaaFkJ
namespace Go.FK
open Go.RowKit

variable {P : Program} {nid : Nat} {obsm : Obs} {ρ : Operand → AV} {X R : Type}

theorem TyOk.st {T : TypeId} {ti : TI} {t : Ty} (h : TyOk P T ti) (ht : ti.t = .st t) : ∃ fs, P.underlying T = some (.struct fs) ∧ FieldsOk P t fs.toList 0 ∧ t.ok true = true := by
  obtain ⟨h1, _, h3⟩ := h
  unfold Shape at h3
  rw [ht] at h1 h3
  obtain ⟨fs, h4, h5⟩ := h3
  exact ⟨fs, h4, h5, by simpa [Ty.ok] using h1⟩

theorem run_fieldAt {T : TypeId} {fs : Array Field} {t : Ty} (hu : P.underlying T = some (.struct fs)) (hf : FieldsOk P t fs.toList 0) {x : t.D} {j : Nat} {d : Dyn} (hd : fieldG t x j = some d) (hs : d.1.sz ≠ 0) (g o : Nat) (sp : Option Nat) (w : World) (a : Addr) (_ha : a = ⟨g, o, sp⟩) :
    (Instr.fieldAt T (.pointer (some a)) j).run P w = .ok (.pointer (some (a.add (offF t j)))) w := by
  obtain ⟨f, h1, h2, _, _, i, hi, hsz⟩ := FieldsOk.at_ t x fs.toList 0 j d hf hd
  have h1' : fs[j]? = some f := by simpa using h1
  simp only [Nat.zero_add] at h2
  simp [Instr.fieldAt, run_underlying hu, h1', Instr.sureAddr, fieldPlace, run_sizeOf hi, hsz, hs, h2]

theorem getP_snoc : ∀ (p : List Nat) (t : Ty) (x : t.D) (u : Ty) (y : u.D) (j : Nat) (d : Dyn), getP p t x = some ⟨.st u, y⟩ → fieldG u y j = some d → getP (p ++ [j]) t x = some d ∧ offP (p ++ [j]) t = offP p t + offF u j
  | [], t, x, u, y, j, d, h, hf => by
    simp only [getP, Option.some.injEq, Sigma.mk.injEq] at h
    obtain ⟨rfl, h⟩ := h
    have h := eq_of_heq h
    subst h
    refine ⟨by simp [getP, hf], ?_⟩
    rw [List.nil_append, offP_cons hf]
    simp [offP]
  | i :: p, .st t, x, u, y, j, d, h, hf => by
    simp only [getP] at h
    split at h
    · rename_i e he
      obtain ⟨h1, h2⟩ := getP_snoc p e.1 e.2 u y j d h hf
      refine ⟨by simp [getP, he, h1], ?_⟩
      rw [List.cons_append, offP_cons he, offP_cons he, h2, Nat.add_assoc]
    · cases h
  | _ :: _, .int _, _, _, _, _, _, h, _ => by simp [getP] at h
  | _ :: _, .bool, _, _, _, _, _, h, _ => by simp [getP] at h
  | _ :: _, .str, _, _, _, _, _, h, _ => by simp [getP] at h
  | _ :: _, .flt, _, _, _, _, _, h, _ => by simp [getP] at h
  | _ :: _, .list _, _, _, _, _, _, h, _ => by simp [getP] at h
  | _ :: _, .unit, _, _, _, _, _, h, _ => by simp [getP] at h
  | _ :: _, .pair _ _, _, _, _, _, _, h, _ => by simp [getP] at h

theorem fieldAddr_sound {E : Env X} (hty : ∀ T ti, E.ty T = some ti → TyOk P T ti) {cons : Bool} {T : TypeId} {x : Operand} {j : Nat} {K : AV → Option Ob → Option R} {r : R}
    (h : freeK E nid cons obsm ρ (.fieldAddr T x j) K = some r) : ∃ av nob, K av nob = some r ∧ FreeSound P nid obsm ρ (.fieldAddr T x j) av nob := by
  simp only [freeK] at h
  split at h
  · rename_i t el eb id ix path hti hρ
    split at h
    · rename_i ob hob
      split at h
      · rename_i d hd
        split at h
        · rename_i hdt
          split at h
          · rename_i f hf
            split at h
            · cases h
            · rename_i hsz
              obtain ⟨fs, hu, hfs, hok⟩ := (hty T _ hti).st rfl
              refine ⟨_, _, h, freeSound_pure fun M0 b0 ν obs dom w a o ho hg hdm hs hr => ?_⟩
              have hx := hr x (by simp [Op.operands])
              rw [hρ] at hx
              have hob' := hs id ob hob
              obtain ⟨hix, g, n, c, hν, hv⟩ := hx.2 ob hob'
              obtain ⟨dt, dx⟩ := d
              simp only at hdt
              subst hdt
              obtain ⟨d', hd', hde⟩ := fieldG_ty t t.zero dx j f hf
              have hrun := run_fieldAt (P := P) hu hfs hd' (by rw [hde]; exact hsz) g (ix * ob.t.sz + offP path ob.t) none w _ rfl
              refine ⟨_, by simp [execOp, ho, hv, hrun]; rfl, hx.1, fun ob' ho' => ?_⟩
              rw [hob'] at ho'
              simp only [Option.some.injEq] at ho'
              subst ho'
              refine ⟨hix, g, n, c, hν, ?_⟩
              rw [add_lit, (getP_snoc path ob.t _ t dx j d' hd hd').2, Nat.add_assoc]
          · cases h
        · cases h
      · cases h
    · cases h
  · rename_i t el eb u y hti hρ
    split at h
    · rename_i htu
      subst htu
      split at h
      · rename_i f hf
        split at h
        · cases h
        · rename_i hsz
          obtain ⟨fs, hu, hfs, hok⟩ := (hty T _ hti).st rfl
          refine ⟨_, _, h, freeSound_pure fun M0 b0 ν obs dom w a o ho hg hdm hs hr => ?_⟩
          have hx := hr x (by simp [Op.operands])
          rw [hρ] at hx
          obtain ⟨_, ad, cs, hv, h1, h2, h3, h4⟩ := hx
          have hrun := run_fieldAt (P := P) hu hfs hf hsz ad.block ad.off ad.spot w ad rfl
          obtain ⟨k1, k2, k3⟩ := Rep.field t y cs j f hok h3 hf
          refine ⟨_, by simp [execOp, ho, hv, hrun], k1, ad.add (offF t j), _, rfl, by rw [block_add]; exact h1, by rw [block_add]; exact h2, k3, fun q v hq => ?_⟩
          rw [seg_getElem] at hq
          split at hq
          · rw [add_add]; exact h4 _ v hq
          · cases hq
      · cases h
    · cases h
  · cases h

theorem field_sound {E : Env X} (hty : ∀ T ti, E.ty T = some ti → TyOk P T ti) {cons : Bool} {T : TypeId} {x : Operand} {j : Nat} {K : AV → Option Ob → Option R} {r : R}
    (h : freeK E nid cons obsm ρ (.field T x j) K = some r) : ∃ av nob, K av nob = some r ∧ FreeSound P nid obsm ρ (.field T x j) av nob := by
  simp only [freeK] at h
  split at h
  · rename_i t el eb u y hti hρ
    split at h
    · rename_i htu
      subst htu
      split at h
      · rename_i f hf
        split at h
        · cases h
        · rename_i hsz
          obtain ⟨fs, hu, hfs, hok⟩ := (hty T _ hti).st rfl
          refine ⟨_, _, h, freeSound_pure fun M0 b0 ν obs dom w a o ho hg hdm hs hr => ?_⟩
          have hx := hr x (by simp [Op.operands])
          rw [hρ] at hx
          obtain ⟨_, cs, h3, hv⟩ := hx
          obtain ⟨k1, k2, k3⟩ := Rep.field t y cs j f hok h3 hf
          obtain ⟨fd, h1, h2, h5, h6, i, hi, hisz⟩ := FieldsOk.at_ t y fs.toList 0 j f hfs hf
          have h1' : fs[j]? = some fd := by simpa using h1
          simp only [Nat.zero_add] at h2
          obtain ⟨ud, hud⟩ := Option.isSome_iff_exists.1 h5
          have hl := Rep.len _ _ _ h3
          have hl' : cs.length = t.sz := hl
          have hpart : (part fd.type cs.toArray (offF t j)).run P w = .ok (ofCells f.1 (seg cs (offF t j) f.1.sz)) w := by
            unfold part
            simp only [Sem.run_bind, run_isAgg hud, Result.andThen_ok, h6]
            cases hst : f.1.isSt
            · have h1s : f.1.sz = 1 := by
                cases hft : f.1 <;> simp_all [Ty.sz, Ty.isSt, Ty.ok]
              have hlt : offF t j < cs.length := by omega
              have : seg cs (offF t j) f.1.sz = [cs[offF t j]] := by
                rw [h1s]
                apply List.ext_getElem?
                intro q
                rw [seg_getElem]
                cases q with
                | zero => simp [hlt]
                | succ q => simp
              rw [this]
              simp [ofCells, hst, hlt]
            · simp only [if_true, Sem.run_bind, run_sizeOf hi, Result.andThen_ok, hisz, Sem.run_pure, ofCells, hst]
              congr 2
              apply Array.ext'
              simp [seg, List.extract]
          refine ⟨_, ?_, k1, _, k3, rfl⟩
          simp [execOp, ho, Instr.field, run_underlying hu, h1', hv, ofCells, Ty.isSt, asAgg, h2, hpart]
      · cases h
    · cases h
  · cases h

theorem indexAddr_sound {E : Env X} (hty : ∀ T ti, E.ty T = some ti → TyOk P T ti) {cons : Bool} {T : TypeId} {x i : Operand} {K : AV → Option Ob → Option R} {r : R}
    (h : freeK E nid cons obsm ρ (.indexAddr T x i) K = some r) : ∃ av nob, K av nob = some r ∧ FreeSound P nid obsm ρ (.indexAddr T x i) av nob := by
  simp only [freeK] at h
  split at h
  · rename_i t el eb id k n hti hρx hρi
    split at h
    · rename_i ob hob
      split at h
      · rename_i hot
        cases hb : (decide (0 ≤ n) && decide (n < (ob.l.length : Int))) <;> simp only [hb, cond_true, cond_false] at h
        · cases h
        · simp only [Bool.and_eq_true, decide_eq_true_eq] at hb
          obtain ⟨hu, ⟨inf, hinf, hisz, _⟩, hok⟩ := (hty T _ hti).list rfl
          simp only at hu hinf
          refine ⟨_, _, h, freeSound_pure fun M0 b0 ν obs dom w a o ho hg hdm hs hr => ?_⟩
          have hx := hr x (by simp [Op.operands])
          have hi := hr i (by simp [Op.operands])
          rw [hρx] at hx
          rw [hρi] at hi
          have hi' : a.eval i = .int k n := repV_int hi
          have hob' := hs id ob hob
          obtain ⟨hdid, hv⟩ := hx
          obtain ⟨_, _, xs, ⟨how, _⟩, _⟩ := hg.ob id ob hob'
          have h0 : (0 : Int) ≤ n := hb.1
          have h1 : (ob.l.length : Int) > n := hb.2
          rcases how.2 with ⟨_, hz⟩ | ⟨g, cap, cur, hν, _⟩
          · exfalso; rw [hz] at h1; omega
          · refine ⟨.pointer (some ⟨g, n.toNat * ob.t.sz, none⟩), ?_, hdid, fun ob' ho' => ?_⟩
            · have ha : (⟨g, 0, none⟩ : Addr).add (n.toNat * t.sz) = ⟨g, n.toNat * ob.t.sz, none⟩ := by rw [add_lit, hot]; simp
              simp [execOp, ho, Instr.indexAt, asIntOf, run_underlying hu, hv, hν, hi', h0, h1, run_sizeOf hinf, hisz, ha]
            · rw [hob'] at ho'
              simp only [Option.some.injEq] at ho'
              subst ho'
              exact ⟨by omega, g, _, _, hν, by simp [offP]⟩
      · cases h
    · cases h
  · rename_i t el eb id lo m k n hti hρx hρi
    split at h
    · rename_i ob hob
      split at h
      · rename_i hot
        cases hb : (decide (0 ≤ n) && decide (n < (m : Int))) <;> simp only [hb, cond_true, cond_false] at h
        · cases h
        · simp only [Bool.and_eq_true, decide_eq_true_eq] at hb
          obtain ⟨hu, ⟨inf, hinf, hisz, _⟩, hok⟩ := (hty T _ hti).list rfl
          simp only at hu hinf
          refine ⟨_, _, h, freeSound_pure fun M0 b0 ν obs dom w a o ho hg hdm hs hr => ?_⟩
          have hx := hr x (by simp [Op.operands])
          have hi := hr i (by simp [Op.operands])
          rw [hρx] at hx
          rw [hρi] at hi
          have hi' : a.eval i = .int k n := repV_int hi
          have hob' := hs id ob hob
          obtain ⟨hdid, hv⟩ := hx
          obtain ⟨hm0, hlm, g, nn, c, cap, hν, hv, hcap⟩ := hv ob hob'
          have h0 : (0 : Int) ≤ n := hb.1
          have h1 : (m : Int) > n := hb.2
          refine ⟨.pointer (some ⟨g, (lo + n.toNat) * ob.t.sz, none⟩), ?_, hdid, fun ob' ho' => ?_⟩
          · have ha : (⟨g, lo * ob.t.sz, none⟩ : Addr).add (n.toNat * t.sz) = ⟨g, (lo + n.toNat) * ob.t.sz, none⟩ := by rw [add_lit, hot, Nat.add_mul]
            simp [execOp, ho, Instr.indexAt, asIntOf, run_underlying hu, hv, hi', h0, h1, run_sizeOf hinf, hisz, ha]
          · rw [hob'] at ho'
            simp only [Option.some.injEq] at ho'
            subst ho'
            exact ⟨by omega, g, _, _, hν, by simp [offP]⟩
      · cases h
    · cases h
  · rename_i t el eb u l k n hti hρx hρi
    split at h
    · rename_i htu
      subst htu
      cases hb : (decide (0 ≤ n) && decide (n < (l.length : Int))) <;> simp only [hb, cond_true, cond_false] at h
      · cases h
      · simp only [Bool.and_eq_true, decide_eq_true_eq] at hb
        obtain ⟨hu, ⟨inf, hinf, hisz, _⟩, hok⟩ := (hty T _ hti).list rfl
        simp only at hu hinf
        refine ⟨_, _, h, freeSound_pure fun M0 b0 ν obs dom w a o ho hg hdm hs hr => ?_⟩
        have hx := hr x (by simp [Op.operands])
        have hi := hr i (by simp [Op.operands])
        rw [hρx] at hx
        rw [hρi] at hi
        have hi' : a.eval i = .int k n := repV_int hi
        have h0 : (0 : Int) ≤ n := hb.1
        have h1 : (l.length : Int) > n := hb.2
        obtain ⟨A, c, hv, _, _, _, hel⟩ := repV_list hx
        have hll : 0 < l.length := by clear hel; omega
        obtain ⟨ad, rfl, k1, k2, k3⟩ := hel hll
        have hlt : n.toNat < l.length := by clear k3 hel; omega
        obtain ⟨es, k4, k5⟩ := k3 n.toNat _ (nthD_some hlt)
        refine ⟨.pointer (some (ad.add (n.toNat * t.sz))), ?_, hok, _, es, rfl, by rw [block_add]; exact k1, by rw [block_add]; exact k2, k4, fun q v hq => by rw [add_add]; exact k5 q v hq⟩
        simp [execOp, ho, Instr.indexAt, asIntOf, run_underlying hu, hv, hi', h0, h1, run_sizeOf hinf, hisz]
    · cases h
  · cases h

theorem index_sound {E : Env X} (hty : ∀ T ti, E.ty T = some ti → TyOk P T ti) {cons : Bool} {T : TypeId} {x i : Operand} {K : AV → Option Ob → Option R} {r : R}
    (h : freeK E nid cons obsm ρ (.index T x i) K = some r) : ∃ av nob, K av nob = some r ∧ FreeSound P nid obsm ρ (.index T x i) av nob := by
  simp only [freeK] at h
  split at h
  · rename_i el eb s k n hti hρx hρi
    cases hb : (decide (0 ≤ n) && decide (n < (s.size : Int))) <;> simp only [hb, cond_true, cond_false] at h
    · cases h
    · simp only [Bool.and_eq_true, decide_eq_true_eq] at hb
      have hu : P.underlying T = some .string := by simpa [Shape] using (hty T _ hti).2.2
      refine ⟨_, _, h, freeSound_pure fun M0 b0 ν obs dom w a o ho hg hdm hs hr => ?_⟩
      have hx := hr x (by simp [Op.operands])
      have hi := hr i (by simp [Op.operands])
      rw [hρx] at hx
      rw [hρi] at hi
      have hi' : a.eval i = .int k n := repV_int hi
      have hx' : a.eval x = .string s := repV_str hx
      have h0 : (0 : Int) ≤ n := hb.1
      have h1 : (s.size : Int) > n := hb.2
      have hlt : n.toNat < s.size := by omega
      refine ⟨.int .u8 (btI s n), ?_, int_repV _ _ _ _⟩
      simp [execOp, ho, Instr.index, asIntOf, run_underlying hu, hx', hi', h0, getElem?_pos s n.toNat hlt, btI, hlt]
  · cases h

theorem extract_sound {E : Env X} {cons : Bool} {x : Operand} {j : Nat} {K : AV → Option Ob → Option R} {r : R}
    (h : freeK E nid cons obsm ρ (.extract x j) K = some r) : ∃ av nob, K av nob = some r ∧ FreeSound P nid obsm ρ (.extract x j) av nob := by
  simp only [freeK] at h
  split at h
  · rename_i l hρ
    split at h
    · rename_i d hd
      refine ⟨_, _, h, freeSound_pure fun M0 b0 ν obs dom w a o ho hg hdm hs hr => ?_⟩
      have hx := hr x (by simp [Op.operands])
      rw [hρ] at hx
      obtain ⟨vs, hv, hsz, hel⟩ := hx
      obtain ⟨u, hu, hrep⟩ := hel j d hd
      exact ⟨u, by simp [execOp, ho, Instr.extract, hv, hu], hrep⟩
    · cases h
  · cases h

end Go.FK

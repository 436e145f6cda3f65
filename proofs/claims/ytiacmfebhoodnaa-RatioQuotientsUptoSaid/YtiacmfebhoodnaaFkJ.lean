/- Operations that write nothing that is there, last part: cuts, fields, elements, calls; and all of them together. -/
import Derived.Test.YtiacmfebhoodnaaFkI
namespace Go.FK
open Go.RowKit

variable {P : Program} {nid : Nat} {obsm : Obs} {ρ : Operand → AV} {X R : Type}

theorem run_sliceBound_ok (k : IntKind) (i : Int) (y : Nat) (code : BoundsCode) (w : World) (h0 : 0 ≤ i) (h1 : i ≤ y) : (Instr.sliceBound (.int k i) y code).run P w = .ok i.toNat w := by
  unfold Instr.sliceBound
  simp [asIntOf, h0, h1]

theorem intAV {a : AV} {K : Int → Option R} {r : R} (h : (match a with | .val (.int _) n => K n | _ => none) = some r) : ∃ k n, a = .val (.int k) n ∧ K n = some r := by
  cases a with
  | val t x => cases t with
    | int k => exact ⟨k, x, rfl, h⟩
    | _ => cases h
  | _ => cases h

theorem loI_sound {lo : Option Operand} {K : Int → Option R} {r : R} (h : loI (lo.map ρ) K = some r) : ∃ l, K l = some r ∧ (lo = none ∧ l = 0 ∨ ∃ x k, lo = some x ∧ ρ x = .val (.int k) l) := by
  cases lo with
  | none => exact ⟨0, h, .inl ⟨rfl, rfl⟩⟩
  | some x =>
    have h' : (match ρ x with | .val (.int _) n => K n | _ => none) = some r := by
      rw [← h]
      simp only [Option.map_some, loI]
      cases ρ x with
      | val t y => cases t <;> rfl
      | _ => rfl
    obtain ⟨k, n, h1, h2⟩ := intAV h'
    exact ⟨n, h2, .inr ⟨x, k, rfl, h1⟩⟩

theorem hiI_sound {len : Int} {hi : Option Operand} {K : Int → Option R} {r : R} (h : hiI len (hi.map ρ) K = some r) : ∃ l, K l = some r ∧ (hi = none ∧ l = len ∨ ∃ x k, hi = some x ∧ ρ x = .val (.int k) l) := by
  cases hi with
  | none => exact ⟨len, h, .inl ⟨rfl, rfl⟩⟩
  | some x =>
    have h' : (match ρ x with | .val (.int _) n => K n | _ => none) = some r := by
      rw [← h]
      simp only [Option.map_some, hiI]
      cases ρ x with
      | val t y => cases t <;> rfl
      | _ => rfl
    obtain ⟨k, n, h1, h2⟩ := intAV h'
    exact ⟨n, h2, .inr ⟨x, k, rfl, h1⟩⟩

theorem cut_sound {n : Nat} {lo hi mx : Option Operand} {K : Int → Int → Option R} {r : R} (h : cutK (n : Int) (lo.map ρ) (hi.map ρ) (mx.map ρ) K = some r) :
    ∃ l u : Int, K l u = some r ∧ 0 ≤ l ∧ l ≤ u ∧ u ≤ n ∧ ∀ (M : Nat → Prop) (ν : Nat → Value) (dom : Nat → Prop) (obs : Obs) (w : World) (ev : Operand → Value) (c : Nat) (sl : Bool),
      (∀ x, lo = some x ∨ hi = some x ∨ mx = some x → RepA M ν dom obs w (ρ x) (ev x)) → n ≤ c →
      ∃ m, u.toNat ≤ m ∧ m ≤ c ∧ (mx = none → m = c) ∧ (Instr.sliceBounds sl n c (lo.map ev) (hi.map ev) (mx.map ev)).run P w = .ok (l.toNat, u.toNat, m) w := by
  unfold cutK at h
  obtain ⟨l, h, hl⟩ := loI_sound h
  obtain ⟨u, h, hu⟩ := hiI_sound h
  cases mx with
  | none =>
    simp only [Option.map_none] at h
    cases hc : (decide (0 ≤ l) && decide (l ≤ u) && decide (u ≤ (n : Int))) <;> simp only [hc, cond_true, cond_false] at h
    · cases h
    · simp only [Bool.and_eq_true, decide_eq_true_eq] at hc
      refine ⟨l, u, h, hc.1.1, hc.1.2, hc.2, fun M ν dom obs w ev c sl hr hnc => ⟨c, by omega, Nat.le_refl _, fun _ => rfl, ?_⟩⟩
      have eu : (u.toNat : Int) = u := Int.toNat_of_nonneg (by omega)
      rcases hu with ⟨rfl, rfl⟩ | ⟨y, ky, rfl, hy⟩
      · rcases hl with ⟨rfl, rfl⟩ | ⟨x, kx, rfl, hx⟩
        · simp [Instr.sliceBounds]
        · have ex : ev x = .int kx l := by have := hr x (.inl rfl); rw [hx] at this; exact repV_int this
          simp [Instr.sliceBounds, ex, run_sliceBound_ok _ _ _ _ _ hc.1.1 hc.1.2]
      · have ey : ev y = .int ky u := by have := hr y (.inr (.inl rfl)); rw [hy] at this; exact repV_int this
        rcases hl with ⟨rfl, rfl⟩ | ⟨x, kx, rfl, hx⟩
        · simp [Instr.sliceBounds, ey, run_sliceBound_ok (P := P) ky u c _ w (by omega) (by omega)]
        · have ex : ev x = .int kx l := by have := hr x (.inl rfl); rw [hx] at this; exact repV_int this
          simp [Instr.sliceBounds, ex, ey, run_sliceBound_ok (P := P) ky u c _ w (by omega) (by omega), run_sliceBound_ok (P := P) kx l u.toNat _ w hc.1.1 (by omega)]
  | some z =>
    simp only [Option.map_some] at h
    have key : ∃ (kz : IntKind) (m : Int), ρ z = .val (.int kz) m ∧ (match hi.map ρ with | none => none | some _ => bif decide (0 ≤ l) && decide (l ≤ u) && decide (u ≤ m) && decide (m ≤ (n : Int)) then K l u else none) = some r := by
      cases hz : ρ z with
      | val t y =>
        rw [hz] at h
        cases t with
        | int k => exact ⟨k, y, rfl, h⟩
        | _ => cases h
      | _ => rw [hz] at h; cases h
    obtain ⟨kz, m, hz, h⟩ := key
    cases hi with
    | none => cases h
    | some y =>
      simp only [Option.map_some] at h
      cases hc : (decide (0 ≤ l) && decide (l ≤ u) && decide (u ≤ m) && decide (m ≤ (n : Int))) <;> simp only [hc, cond_true, cond_false] at h
      · cases h
      · simp only [Bool.and_eq_true, decide_eq_true_eq] at hc
        obtain ⟨⟨⟨c1, c2⟩, c3⟩, c4⟩ := hc
        refine ⟨l, u, h, c1, c2, by omega, fun M ν dom obs w ev c sl hr hnc => ⟨m.toNat, by omega, by omega, (fun e => by cases e), ?_⟩⟩
        rcases hu with ⟨e, _⟩ | ⟨y', ky, e, hy⟩
        · cases e
        · simp only [Option.some.injEq] at e
          subst e
          have ey : ev y = .int ky u := by have := hr y (.inr (.inl rfl)); rw [hy] at this; exact repV_int this
          have ez : ev z = .int kz m := by have := hr z (.inr (.inr rfl)); rw [hz] at this; exact repV_int this
          rcases hl with ⟨rfl, rfl⟩ | ⟨x, kx, rfl, hx⟩
          · simp [Instr.sliceBounds, ey, ez, run_sliceBound_ok (P := P) kz m c _ w (by omega) (by omega), run_sliceBound_ok (P := P) ky u m.toNat _ w (by omega) (by omega)]
          · have ex : ev x = .int kx l := by have := hr x (.inl rfl); rw [hx] at this; exact repV_int this
            simp [Instr.sliceBounds, ex, ey, ez, run_sliceBound_ok (P := P) kz m c _ w (by omega) (by omega), run_sliceBound_ok (P := P) ky u m.toNat _ w (by omega) (by omega), run_sliceBound_ok (P := P) kx l u.toNat _ w c1 (by omega)]

theorem repV_list {M : Nat → Prop} {w : World} {t : Ty} {l : List t.D} {v : Value} (h : RepV M w (.list t) l v) : ∃ A c, v = .slice A l.length c ∧ l.length ≤ c ∧ c ≤ maxLen ∧ t.ok false = true ∧
    (0 < l.length → ∃ a, A = some a ∧ a.block < w.heap.size ∧ ¬ M a.block ∧ ∀ i x, l[i]? = some x → ∃ es, Rep M w t x es ∧ ∀ j v, es[j]? = some v → w.cell? (a.add (i * t.sz + j)) = some v) := by
  obtain ⟨ho, cs, ⟨A, c, rfl, h1, h2, h3⟩, rfl⟩ := h
  exact ⟨A, c, by simp [ofCells, Ty.isSt], h1, h2, by simpa [Ty.ok] using ho, h3⟩

theorem slice_sound {E : Env X} (hty : ∀ T ti, E.ty T = some ti → TyOk P T ti) {cons : Bool} {T : TypeId} {x : Operand} {lo hi mx : Option Operand} {K : AV → Option Ob → Option R} {r : R}
    (h : freeK E nid cons obsm ρ (.slice T x lo hi mx) K = some r) : ∃ av nob, K av nob = some r ∧ FreeSound P nid obsm ρ (.slice T x lo hi mx) av nob := by
  simp only [freeK] at h
  have hop : ∀ y, lo = some y ∨ hi = some y ∨ mx = some y → y ∈ (Op.slice T x lo hi mx).operands := by
    intro y hy
    rcases hy with rfl | rfl | rfl <;> simp [Op.operands]
  split at h
  · rename_i t el eb u l hti hρ
    split at h
    · rename_i htu
      subst htu
      obtain ⟨a, b, hK, h0, hab, hbn, hcut⟩ := cut_sound (P := P) h
      obtain ⟨hu, ⟨i, hi', hisz, _⟩, hok⟩ := (hty T _ hti).list rfl
      simp only at hu hi'
      refine ⟨_, _, hK, freeSound_pure fun M0 b0 ν obs dom w ac o ho hg hdm hs hr => ?_⟩
      have hx := hr x (by simp [Op.operands])
      rw [hρ] at hx
      obtain ⟨A, c, hv, hlc, hcm, _, hel⟩ := repV_list hx
      obtain ⟨m, hm1, hm2, _, hrun⟩ := hcut _ ν dom obs w ac.eval c true (fun y hy => hr y (hop y hy)) hlc
      have hlen : ((l.take b.toNat).drop a.toNat).length = b.toNat - a.toNat := by simp; omega
      refine ⟨.slice (if m = a.toNat then A else A.map (·.add (a.toNat * t.sz))) (b.toNat - a.toNat) (m - a.toNat), ?_, by simpa [Ty.ok] using hok, [.slice (if m = a.toNat then A else A.map (·.add (a.toNat * t.sz))) (b.toNat - a.toNat) (m - a.toNat)], ⟨_, _, by rw [hlen], by rw [hlen]; omega, by simp only [maxLen] at hcm ⊢; omega, fun hpos => ?_⟩, by simp [ofCells, Ty.isSt]⟩
      · have : (Instr.slice T (.slice A l.length c) (lo.map ac.eval) (hi.map ac.eval) (mx.map ac.eval)).run P w = .ok (.slice (if m = a.toNat then A else A.map (·.add (a.toNat * t.sz))) (b.toNat - a.toNat) (m - a.toNat)) w := by
          simp only [Instr.slice, Sem.run_bind, run_underlying hu, Result.andThen_ok, hrun, run_sizeOf hi', hisz, Sem.run_pure]
        simp [execOp, ho, Instr.sliceAt, run_underlying hu, hv, this]
      · rw [hlen] at hpos
        have hne : ¬ m = a.toNat := by clear hel hcut; omega
        have hll : 0 < l.length := by clear hel hcut; omega
        obtain ⟨ad, rfl, h1, h2, h3⟩ := hel hll
        rw [if_neg hne]
        refine ⟨ad.add (a.toNat * t.sz), rfl, by rw [block_add]; exact h1, by rw [block_add]; exact h2, fun i x hx => ?_⟩
        rw [List.getElem?_drop, List.getElem?_take] at hx
        split at hx
        · obtain ⟨es, h4, h5⟩ := h3 _ x hx
          refine ⟨es, h4, fun j v hj => ?_⟩
          have := h5 j v hj
          rw [add_add]
          rw [Nat.add_mul] at this
          rwa [← Nat.add_assoc]
        · cases hx
    · cases h
  · rename_i t el eb id hti hρ
    split at h
    · rename_i ob hob
      split at h
      · rename_i hot
        obtain ⟨a, b, hK, h0, hab, hbn, hcut⟩ := cut_sound (P := P) (mx := none) h
        cases hlt : decide (a < b) <;> simp only [hlt, cond_true, cond_false] at hK
        · cases hK
        simp only [decide_eq_true_eq] at hlt
        obtain ⟨hu, ⟨i, hi', hisz, _⟩, hok⟩ := (hty T _ hti).list rfl
        simp only at hu hi'
        refine ⟨_, _, hK, freeSound_pure fun M0 b0 ν obs dom w ac o ho hg hdm hs hr => ?_⟩
        have hx := hr x (by simp [Op.operands])
        rw [hρ] at hx
        obtain ⟨hdid, hv⟩ := hx
        have hob' := hs id ob hob
        obtain ⟨_, _, xs, ⟨how, _⟩, _⟩ := hg.ob id ob hob'
        rcases how.2 with ⟨_, hz⟩ | ⟨g, cap, cur, hν, _, _, hnc, hcm, _⟩
        · exfalso
          rw [hz] at hbn
          omega
        · rw [hν] at hv
          obtain ⟨m, hm1, hm2, _, hrun⟩ := hcut _ ν dom obs w ac.eval cap true (fun y hy => hr y (hop y (by rcases hy with h | h | h; exact .inl h; exact .inr (.inl h); cases h))) hnc
          have hne : ¬ m = a.toNat := by omega
          refine ⟨.slice (if m = a.toNat then some ⟨g, 0, none⟩ else (some (⟨g, 0, none⟩ : Addr)).map (·.add (a.toNat * t.sz))) (b.toNat - a.toNat) (m - a.toNat), ?_, hdid, fun ob2 ho2 => ?_⟩
          · have : (Instr.slice T (.slice (some ⟨g, 0, none⟩) ob.l.length cap) (lo.map ac.eval) (hi.map ac.eval) none).run P w = .ok (.slice (if m = a.toNat then some ⟨g, 0, none⟩ else (some (⟨g, 0, none⟩ : Addr)).map (·.add (a.toNat * t.sz))) (b.toNat - a.toNat) (m - a.toNat)) w := by
              have hrun' : (Instr.sliceBounds true ob.l.length cap (lo.map ac.eval) (hi.map ac.eval) none).run P w = .ok (a.toNat, b.toNat, m) w := hrun
              simp only [Instr.slice, Sem.run_bind, run_underlying hu, Result.andThen_ok, hrun', run_sizeOf hi', hisz, Sem.run_pure]
            simp [execOp, ho, Instr.sliceAt, run_underlying hu, hv, this]
          · rw [hob'] at ho2
            simp only [Option.some.injEq] at ho2
            subst ho2
            have e1 : (b - a).toNat = b.toNat - a.toNat := by omega
            refine ⟨by omega, by omega, g, _, cap, m - a.toNat, hν, ?_, by omega⟩
            rw [if_neg hne, e1, hot]
            simp [add_lit]
      · cases h
    · cases h
  · rename_i el eb s hti hρ
    have hu : P.underlying T = some .string := by simpa [Shape] using (hty T _ hti).2.2
    split at h
    · obtain ⟨a, b, hK, h0, hab, hbn, hcut⟩ := cut_sound (P := P) (mx := none) h
      refine ⟨_, _, hK, freeSound_pure fun M0 b0 ν obs dom w ac o ho hg hdm hs hr => ?_⟩
      have hx := hr x (by simp [Op.operands])
      rw [hρ] at hx
      have hv : ac.eval x = .string s := repV_str hx
      obtain ⟨m, _, _, hm, hrun⟩ := hcut _ ν dom obs w ac.eval s.size false (fun y hy => hr y (hop y (by rcases hy with h | h | h; exact .inl h; exact .inr (.inl h); cases h))) (Nat.le_refl _)
      have : (Instr.slice T (.string s) (lo.map ac.eval) (hi.map ac.eval) none).run P w = .ok (.string (s.extract a.toNat b.toNat)) w := by
        have hrun' : (Instr.sliceBounds false s.size s.size (lo.map ac.eval) (hi.map ac.eval) none).run P w = .ok (a.toNat, b.toNat, m) w := hrun
        simp only [Instr.slice, Sem.run_bind, run_underlying hu, Result.andThen_ok, Option.isSome_none, Bool.false_eq_true, if_false, hrun', Sem.run_pure]
      exact ⟨_, by simp [execOp, ho, Instr.sliceAt, run_underlying hu, hv, this], str_repV _ _ _⟩
    · cases h
  · cases h

end Go.FK

import Derived.Test.YtnjpocbcfkfphaaDoorF5
import Derived.Test.YtnjpocbcfkfphaaDoorProg
import Derived.KernelRfl
import Derived.Shelf.Abstract
import Derived.Tactics
import Derived.Tactics2
import Derived.Defers
import Derived.Recover
import Derived.Laws.Pointers

/- sexpr's builder: what put and take do to its memory. -/
namespace Go.Proofs.YtnjpocbcfkfphaaDoor
open Go.RowKit Go.FK Go.Shelf
macro "κ" : term => `((by kernel_rfl))
macro "⟪" g:term ", " k:term "⟫" : term => `(Value.pointer (some (Addr.mk $g $k none)))
macro "⌜" g:term "⌝" : term => `((some (Addr.mk $g 0 none)))
macro "δ" t:term : term => `(rd_of rfl rfl fun _ _ => $t)
theorem sxTyL : TyOk Tryd.prog 22 ⟨.list nodeT, 34, 80⟩ := tyB_ok κ
theorem sxTyN : TyOk Tryd.prog 34 ⟨nodeT, 0, 0⟩ := tyB_ok κ
theorem sxTyK : TyOk Tryd.prog 32 ⟨tokT, 0, 0⟩ := tyB_ok κ
theorem sxTyI : TyOk Tryd.prog 3 ⟨.int .i64, 0, 0⟩ := tyB_ok κ
theorem sxMix : Tryd.prog.follows .mixedOrders = true := by kernel_rfl
def zNode : Value := .agg #[.int .i64 0, .string ⟨#[]⟩, .int .i64 0, .int .i64 0, .int .i64 0, .int .i64 0, .slice none 0 0]
def zCells : List Value := [.int .i64 0, .string ⟨#[]⟩, .int .i64 0, .int .i64 0, .int .i64 0, .int .i64 0, .slice none 0 0]
theorem sxInfo : (Tryd.prog.info? 34).map (fun i => (i.size, i.zero)) = some (7, some zNode) := by kernel_rfl
theorem sxInfo3 : ∃ i, Tryd.prog.info? 34 = some i ∧ i.zero = some zNode ∧ i.size = 7 ∧ i.bytes = 80 := by
  have h : (Tryd.prog.info? 34).map (fun i => (i.zero, i.size, i.bytes)) = some (some zNode, 7, 80) := by kernel_rfl
  cases hi : Tryd.prog.info? 34 with
  | none => rw [hi] at h; cases h
  | some i =>
    rw [hi] at h
    simp only [Option.map_some, Option.some.injEq, Prod.mk.injEq] at h
    exact ⟨i, rfl, h.1, h.2.1, h.2.2⟩
theorem sxSz : (Tryd.prog.info? 34).map (·.size) = some 7 := by kernel_rfl
theorem sxUndT : Tryd.prog.underlying 65 = some (.slice 32) := by kernel_rfl
theorem sxSzT : (Tryd.prog.info? 32).map (·.size) = some 6 := by kernel_rfl
theorem sxUnd : Tryd.prog.underlying 22 = some (.slice 34) := by kernel_rfl
structure PIn (M : Nat → Prop) (w : World) (R c eR sR : Nat) (rs : List Value) (vo vd : Value) (os : List OpD) (ds : List NodeD) (n : NodeD) (cs : List Value) : Prop where
  b : BOk M 34 w vo vd os ds
  m : ∀ q, M q → q < w.heap.size
  r : w.ownsRow 0 eR sR (.slice ⌜R⌝ 1 c) 1 rs
  n : Rep (fun q => M q ∨ Foot vo vd os q) w nodeT n.un cs
variable {M : Nat → Prop} {w w1 : World} {R c eR sR k : Nat} {rs : List Value} {vo vd : Value} {os : List OpD} {ds : List NodeD} {n : NodeD} {cs : List Value}
theorem PIn.next (h : PIn M w R c eR sR rs vo vd os ds n cs) (hb : Below w.heap.size w w1) : PIn M w1 R c eR sR rs vo vd os ds n cs :=
  ⟨h.b.next (Agree.of_below hb) (fun _ _ h => h), fun q hq => Nat.lt_of_lt_of_le (h.m q hq) hb.size, ownsRow_same h.r (fun b hq => hb.block b (h.r.lt b hq).2), Rep.next (Agree.of_below hb) (fun _ _ h => h) _ _ _ h.n⟩
theorem seg_two {a b : Value} (h : seg rs k 2 = [a, b]) : k + 2 ≤ rs.length := by
  have := congrArg List.length h
  simp [seg] at this
  omega
theorem seg_fst {a b : Value} (h : seg rs k 2 = [a, b]) : seg rs (k + 0) [a].length = [a] := by
  have := congrArg (fun l => seg l 0 1) h
  simp only [seg_seg rs k 2 0 1 (by decide)] at this
  exact this
theorem seg_snd {a b : Value} (h : seg rs k 2 = [a, b]) : seg rs (k + 1) [b].length = [b] := by
  have := congrArg (fun l => seg l 1 1) h
  simp only [seg_seg rs k 2 1 1 (by decide)] at this
  exact this
theorem wrap_small {n : Int} (h0 : -9223372036854775808 ≤ n) (h1 : n ≤ 9223372036854775807) : IntKind.i64.wrap n = n := by
  simp only [IntKind.wrap_i64]
  omega
structure TIn (M : Nat → Prop) (w : World) (R c eR sR : Nat) (rs : List Value) (vo vd : Value) (os : List OpD) (ds : List NodeD) : Prop where
  b : BOk M 34 w vo vd os ds
  m : ∀ q, M q → q < w.heap.size
  r : w.ownsRow 0 eR sR (.slice ⌜R⌝ 1 c) 1 rs
theorem TIn.next (h : TIn M w R c eR sR rs vo vd os ds) (hb : Below w.heap.size w w1) : TIn M w1 R c eR sR rs vo vd os ds :=
  ⟨h.b.next (Agree.of_below hb) (fun _ _ h => h), fun q hq => Nat.lt_of_lt_of_le (h.m q hq) hb.size, ownsRow_same h.r (fun b hq => hb.block b (h.r.lt b hq).2)⟩
def strB (P : Program) (T : TypeId) : Bool := match P.underlying T with
  | some (.struct _) => true
  | _ => false
theorem strB_ok {P : Program} {T : TypeId} (h : strB P T = true) : ∃ fs, P.underlying T = some (.struct fs) := by
  unfold strB at h
  split at h
  · exact ⟨_, by assumption⟩
  · cases h
theorem sxWr : ∃ fs, Tryd.prog.underlying 61 = some (.struct fs) := strB_ok κ
theorem row_next {e : TypeId} {sz n : Nat} {v : Value} {xs : List Value} (h : w.ownsRow 0 e sz v n xs) (hb : Below w.heap.size w w1) : w1.ownsRow 0 e sz v n xs := ownsRow_same h fun b hq => hb.block b (h.lt b hq).2
theorem last_row {os : List OpD} {p : OpD} : seg (opsC (os ++ [p])) (os.length * 7) (opC p).length = opC p := by
  rw [opsC_app, opsC_one]
  have : os.length * 7 = (opsC os).length := (opsC_len os).symm
  rw [this]
  simp [seg]
theorem tok_one (t : TokD) (v : Value) (hv : v.oneCell' = true) : ∀ u ∈ tokC t ++ [v], u.oneCell' = true := by
  intro u hu
  simp only [tokC, List.cons_append, List.nil_append, List.mem_cons, List.not_mem_nil, or_false] at hu
  rcases hu with rfl | rfl | rfl | rfl | rfl | rfl | rfl <;> first | rfl | exact hv
theorem tokC_one (t : TokD) : ∀ u ∈ tokC t, u.oneCell' = true := by
  intro u hu
  simp only [tokC, List.mem_cons, List.not_mem_nil, or_false] at hu
  rcases hu with rfl | rfl | rfl | rfl | rfl | rfl <;> rfl
theorem put_done (h : PIn M w R c eR sR rs vo vd [] ds n cs) (hMR : M R) (hrs : seg rs k 2 = [vo, vd]) (hlen : ds.length < 1099511627776) :
    Calls Tryd.prog 71 #[⟪R, k⟫, .agg cs.toArray] w fun e w' => e = .returned (.tuple #[]) ∧ ∃ vd', BOk M 34 w' vo vd' [] (ds ++ [n]) ∧
      w'.ownsRow 0 eR sR (.slice ⌜R⌝ 1 c) 1 (splice rs (k + 1) [vd']) ∧ Chg (fun b => b = R ∨ Foot vo vd [] b) w w' ∧ ∀ b, b < w.heap.size → Foot vo vd' [] b → Foot vo vd [] b := by
  refine calls_of_wp Tryd.func71 rfl ?_
  have hfr : Fr [] 44 [(0, ⟪R, k⟫), (1, .agg cs.toArray)] { tmps := #[⟪R, k⟫, .agg cs.toArray] ++ Array.replicate (44 - 2) undef, defers := [] } := fr_entry (args := #[⟪R, k⟫, .agg cs.toArray]) (by simp) (fun t ht => by
    rcases t with _ | _ | t
    · exact ⟨by simp, rfl⟩
    · exact ⟨by simp, rfl⟩
    · exact absurd ht (by simp [hasK]))
  change Code.wp _ _ _ { tmps := #[⟪R, k⟫, .agg cs.toArray] ++ Array.replicate (44 - 2) undef, defers := [] } _
  generalize ({ tmps := #[⟪R, k⟫, .agg cs.toArray] ++ Array.replicate (44 - 2) undef, defers := [] } : Act) = a at hfr ⊢
  have hcl : cs.length = 7 := Rep.len _ _ _ h.n
  have hcp : 0 < cs.length := by omega
  have hone : ∀ u ∈ cs, u.oneCell' = true := Rep.one _ _ _ h.n
  obtain ⟨A, co, rfl⟩ := own_slice h.b.o
  obtain ⟨zs, hz, hzr⟩ := h.b.d
  obtain ⟨V, cd, rfl⟩ := own_slice hz
  have hrl : k + 2 ≤ rs.length := seg_two hrs
  refine wp_seq (region_rest sxMix fun w1 hh1 hb1 => ?_)
  refine rest_new (q := 1) (j0 := 0) (ob := (.cells cs.toArray 34)) (nl := [(3, ⟪w1.heap.size, 0⟫)]) κ κ (by decide) hfr rfl (.s rfl (st_eq ⟨_, ru_box rfl rfl, fun d h1 _ => by cases h1; rfl⟩)
    (.z)) (fun a hfr1 => ?_)
  have hP2 := (h.next hb1).next ((Below.refl _ w1).alloc (Nat.le_refl _) (.cells cs.toArray 34))
  have hB2 := own_box (w := w1) (e := 34) hcl
  have hC2 : Below w.heap.size w (w1.alloc (.cells cs.toArray 34)) := hb1.trans (((Below.refl _ w1).alloc (Nat.le_refl _) _).mono hb1.size)
  generalize hw2 : w1.alloc (.cells cs.toArray 34) = w2 at *
  refine rest_end κ ?_
  refine wp_seq (wp_seq (region_rest sxMix fun w3 hh3 hb3 => ?_))
  have hP3 := hP2.next hb3
  have hatO : At w3 R (k + 0) [.slice A 0 co] := At.row hP3.r rfl (seg_fst hrs)
  refine rest_reads (q := 6) (nl := [(5, ⟪R, k⟫), (6, ⟪R, k⟫), (7, ⟪R, k + 0⟫), (8, (.slice A 0 co)), (9, (.int .i64 (((0 : Nat) : Int)))), (10, (.bool (decide (((0 : Nat) : Int) = (0 : Int)))))]) κ κ hfr1 rfl (.s rfl (δ ru_move rfl rfl)
    (.s rfl (δ ru_nil rfl rfl)
    (.s rfl (δ ru_field (d := 0) rfl κ rfl)
    (.s rfl (rd_of rfl rfl fun _ hw => ru_load rfl sxTyL rfl rfl (At.rd hatO (by simp) hw))
    (.s rfl (δ ru_len rfl sxUnd rfl)
    (.s rfl (δ ru_eq rfl rfl rfl)
    (.z))))))) (fun a hfr2 => ?_)
  refine rest_end κ ?_
  refine wp_cond (t := true) ((hfr2.get (t := 10) rfl).trans (by show Value.bool (decide _) = _; simp)) ?_
  rw [if_pos rfl]
  refine wp_seq (region_rest sxMix fun w4 hh4 hb4 => ?_)
  have hP4 := hP3.next hb4
  have hB4 : w4.ownsRow 0 34 7 (.slice ⌜w1.heap.size⌝ 1 1) 1 cs := ownsRow_same (ownsRow_same hB2 fun b hb => hb3.block b (hB2.lt b hb).2) fun b hb => hb4.block b (Nat.lt_of_lt_of_le (hB2.lt b hb).2 hb3.size)
  have hatB : At w4 w1.heap.size 0 cs := At.all hB4
  have hatD : At w4 R (k + 1) [.slice V ds.length cd] := At.row hP4.r rfl (seg_snd hrs)
  refine rest_new (q := 7) (j0 := 6) (ob := (.cells zCells.toArray 34)) (nl := [(11, ⟪R, k⟫), (12, ⟪R, k⟫), (13, ⟪R, k + 1⟫), (14, (.slice V ds.length cd)), (15, (.agg (cs).toArray)), (16, (.int .i64 (((ds.length : Nat) : Int)))), (17, (.slice ⌜w4.heap.size⌝ 1 1))]) κ κ (by decide) hfr2 rfl (.s rfl (st_ne (by decide) (δ ru_move rfl rfl))
    (.s rfl (st_ne (by decide) (δ ru_nil rfl rfl))
    (.s rfl (st_ne (by decide) (δ ru_field (d := 1) rfl κ rfl))
    (.s rfl (st_ne (by decide) (rd_of rfl rfl fun _ hw => ru_load rfl sxTyL rfl rfl (At.rd hatD (by simp) hw)))
    (.s rfl (st_ne (by decide) (rd_of rfl rfl fun _ hw => ru_load rfl sxTyN hcl rfl (At.rd hatB hcp hw)))
    (.s rfl (st_ne (by decide) (δ ru_len rfl sxUnd rfl))
    (.s rfl (st_eq ⟨_, ru_bslice rfl sxUnd sxInfo rfl (by decide) (by decide) rfl rfl, fun d h1 _ => by cases h1; rfl⟩)
    (.z)))))))) (fun a hfr3 => ?_)
  obtain ⟨zs, hz, hzr⟩ := hP4.b.d
  have hZ5 := own_box (w := w4) (e := 34) (cs := zCells) (n := 7) rfl
  have hP5 := hP4.next ((Below.refl _ w4).alloc (Nat.le_refl _) (.cells zCells.toArray 34))
  have hC5 : Below w.heap.size w (w4.alloc (.cells zCells.toArray 34)) := ((hC2.trans (hb3.mono hC2.size)).trans (hb4.mono (Nat.le_trans hC2.size hb3.size))).trans (((Below.refl _ w4).alloc (Nat.le_refl _) _).mono (Nat.le_trans (Nat.le_trans hC2.size hb3.size) hb4.size))
  have hz5 := hz.alloc (.cells zCells.toArray 34)
  have hzr5 := hzr.next (Agree.of_below ((Below.refl _ w4).alloc (Nat.le_refl _) (.cells zCells.toArray 34))) (fun _ _ h => h)
  generalize hw5 : w4.alloc (.cells zCells.toArray 34) = w5 at *
  obtain ⟨i0, hi0, hi1, hi2, hi3⟩ := sxInfo3
  refine rest_app κ κ rfl hfr3 κ rfl (ru_append rfl sxUnd hi0 hi1 hi2 hi3 rfl (by decide) rfl rfl hz5 rfl (At.all hZ5) (by decide) (by simp only [maxLen]; omega) (by omega)) ?_
  rintro v' w6 a ⟨hv, hgr, hvb⟩ hfr4
  obtain ⟨gv, cv, rfl⟩ := own_form hv (Nat.succ_pos _)
  have hgM : ¬ M gv := by
    rcases hvb with e | e
    · exact hP5.b.m gv (.inr (.inl e.symm))
    · intro hm
      have := hP5.m gv hm
      have e : gv = w5.heap.size := Option.some.inj e
      omega
  have hgR : gv ≠ R := fun e => hgM (e ▸ hMR)
  have hRv : (Value.slice V ds.length cd).ownBlock ≠ some R := fun e => hP5.b.m R (.inr (.inl e)) hMR
  have hr6 : w6.ownsRow 0 eR sR (.slice ⌜R⌝ 1 c) 1 rs := hP5.r.kept hgr (.inr fun e => hRv e.symm)
  have hzl : zs.length = ds.length * 7 := hz.1
  refine rest_stores (q := 13) (j1 := 9) (j2 := 12) (g1 := gv) (g2 := R) (nl := [(19, ⟪gv, 0 + Int.toNat (((ds.length : Nat) : Int)) * 7⟫), (20, ⟪R, k⟫), (21, ⟪R, k + 1⟫)]) (fun w => w.ownsRow 0 34 7 (.slice ⌜gv⌝ (ds.length + 1) cv) (ds.length + 1) (zs ++ zCells)) (fun w => w.ownsRow 0 34 7 (.slice ⌜gv⌝ (ds.length + 1) cv) (ds.length + 1) (splice (zs ++ zCells) (0 + Int.toNat ((ds.length : Nat) : Int) * 7) cs)) (fun w => w.ownsRow 0 eR sR (.slice ⌜R⌝ 1 c) 1 rs) (fun w => w.ownsRow 0 eR sR (.slice ⌜R⌝ 1 c) 1 (splice rs (k + 1) [.slice ⌜gv⌝ (ds.length + 1) cv])) κ κ (by decide) hfr4 rfl hv hr6 (fun w1 w2 h1 h2 => h1.kept h2 (.inr fun e => hgR (by cases e; rfl))) (fun w1 w2 h1 h2 => h1.kept h2 (.inr fun e => hgR (by cases e; rfl))) (fun w1 w2 h1 h2 => h1.kept h2 (.inr fun e => hgR (by cases e; rfl))) (fun w1 w2 h1 h2 => h1.kept h2 (.inr fun e => hgR (by cases e; rfl))) (.s rfl (st_ne (by decide) (st_ne (by decide) (ra_of rfl rfl fun _ => ru_index (sz := 7) rfl sxUnd sxSz rfl rfl (Int.natCast_nonneg _) (by omega))))
    (.s rfl (st_eq ⟨rfl, fun w1 h1 => rs_store rfl κ rfl rfl hcl hone h1 (by rw [List.length_append, hzl, hcl]; show _ ≤ _ + 7; omega)⟩)
    (.s rfl (st_ne (by decide) (st_ne (by decide) (ra_of rfl rfl fun _ => ru_nil rfl rfl)))
    (.s rfl (st_ne (by decide) (st_ne (by decide) (ra_of rfl rfl fun _ => ru_field (d := 1) rfl κ rfl)))
    (.s rfl (st_ne (by decide) (st_eq ⟨rfl, fun w1 h1 => rs_store rfl κ rfl rfl rfl (by simp [Value.oneCell']) h1 (by simp; omega)⟩))
    (.z)))))) (fun a w7 hfr5 hs1 hs2 hch => ?_)
  refine rest_end κ ?_
  refine wp_ret ?_
  have hsp : splice (zs ++ zCells) (0 + Int.toNat ((ds.length : Nat) : Int) * 7) cs = zs ++ cs := by
    have e : 0 + Int.toNat ((ds.length : Nat) : Int) * 7 = zs.length + 0 := by rw [hzl]; simp
    rw [e, splice_right, splice_whole zCells cs (by rw [hcl]; rfl)]
  rw [hsp] at hs1
  have hout : Out M (fun b => (Value.slice V ds.length cd).ownBlock = some b) w5 w7 := by
    refine ⟨Nat.le_trans hgr.size (Beyond.size hch), fun b hb hm hx => ?_⟩
    refine (Chg.block hch (Nat.lt_of_lt_of_le hb hgr.size) fun e => ?_).trans (hgr.block b hb fun e => hx e.symm)
    rcases e with rfl | rfl
    · rcases hvb with e | e
      · exact hx e.symm
      · have e : b = w5.heap.size := Option.some.inj e
        omega
    · exact hm hMR
  simp only [Exit.then]
  refine post_ret0 rfl hfr5.1 ⟨rfl, _, hP5.b.push hP5.m hzr5 hP5.n hs1 hout hvb, hs2, ?_, foot_push hvb hC5.size⟩
  refine ((Chg.below hC5).then (Chg.grown' hgr) fun b _ e => .inr (.inr (.inl e))).then hch fun b hb e => ?_
  rcases e with rfl | rfl
  · rcases hvb with e | e
    · exact .inr (.inr (.inl e.symm))
    · have e : b = w5.heap.size := Option.some.inj e
      have := hC5.size; omega
  · exact .inl rfl
theorem put_kid {p : OpD} (h : PIn M w R c eR sR rs vo vd (os ++ [p]) ds n cs) (hMR : M R) (hrs : seg rs k 2 = [vo, vd]) (hlen : os.length < 1099511627776) (hlk : p.k.length < 1099511627776) :
    Calls Tryd.prog 71 #[⟪R, k⟫, .agg cs.toArray] w fun e w' => e = .returned (.tuple #[]) ∧ ∃ v', BOk M 34 w' vo vd (os ++ [⟨p.t, v', p.k ++ [n]⟩]) ds ∧
      w'.ownsRow 0 eR sR (.slice ⌜R⌝ 1 c) 1 rs ∧ Chg (Foot vo vd (os ++ [p])) w w' ∧ ∀ b, b < w.heap.size → Foot vo vd (os ++ [⟨p.t, v', p.k ++ [n]⟩]) b → Foot vo vd (os ++ [p]) b := by
  refine calls_of_wp Tryd.func71 rfl ?_
  have hfr : Fr [] 44 [(0, ⟪R, k⟫), (1, .agg cs.toArray)] { tmps := #[⟪R, k⟫, .agg cs.toArray] ++ Array.replicate (44 - 2) undef, defers := [] } := fr_entry (args := #[⟪R, k⟫, .agg cs.toArray]) (by simp) (fun t ht => by
    rcases t with _ | _ | t
    · exact ⟨by simp, rfl⟩
    · exact ⟨by simp, rfl⟩
    · exact absurd ht (by simp [hasK]))
  change Code.wp _ _ _ { tmps := #[⟪R, k⟫, .agg cs.toArray] ++ Array.replicate (44 - 2) undef, defers := [] } _
  generalize ({ tmps := #[⟪R, k⟫, .agg cs.toArray] ++ Array.replicate (44 - 2) undef, defers := [] } : Act) = a at hfr ⊢
  have hcl : cs.length = 7 := Rep.len _ _ _ h.n
  have hcp : 0 < cs.length := by omega
  have hone : ∀ u ∈ cs, u.oneCell' = true := Rep.one _ _ _ h.n
  have hol : (os ++ [p]).length = os.length + 1 := by simp
  have ho := h.b.o
  rw [hol] at ho
  obtain ⟨g, co, rfl⟩ := own_form ho (Nat.succ_pos _)
  obtain ⟨ys0, hy0, _⟩ := h.b.k os.length p snoc_last
  obtain ⟨K, ck, hK⟩ := own_slice hy0
  obtain ⟨pt, pv, pk⟩ := p
  simp only at hK hlk
  subst hK
  have hrl : k + 2 ≤ rs.length := seg_two hrs
  have hwr : IntKind.i64.wrap (((os.length + 1 : Nat) : Int) - (1 : Int)) = (os.length : Int) := by
    rw [show (((os.length + 1 : Nat) : Int) - (1 : Int)) = (os.length : Int) by omega]
    exact wrap_small (by omega) (by omega)
  have hof : 0 + Int.toNat (IntKind.i64.wrap (((os.length + 1 : Nat) : Int) - (1 : Int))) * 7 = os.length * 7 := by rw [hwr]; simp
  have hxl : (opsC (os ++ [(⟨pt, .slice K pk.length ck, pk⟩ : OpD)])).length = (os.length + 1) * 7 := by rw [opsC_len, hol]
  have hx1 : seg (opsC (os ++ [(⟨pt, .slice K pk.length ck, pk⟩ : OpD)])) (os.length * 7 + 6) [Value.slice K pk.length ck].length = [.slice K pk.length ck] := by
    rw [opsC_app, opsC_one, opC]
    have : os.length * 7 + 6 = (opsC os ++ tokC pt).length := by rw [List.length_append, opsC_len]; rfl
    rw [← List.append_assoc, this]
    simp [seg]
  refine wp_seq (region_rest sxMix fun w1 hh1 hb1 => ?_)
  refine rest_new (q := 1) (j0 := 0) (ob := (.cells cs.toArray 34)) (nl := [(3, ⟪w1.heap.size, 0⟫)]) κ κ (by decide) hfr rfl (.s rfl (st_eq ⟨_, ru_box rfl rfl, fun d h1 _ => by cases h1; rfl⟩)
    (.z)) (fun a hfr1 => ?_)
  have hP2 := (h.next hb1).next ((Below.refl _ w1).alloc (Nat.le_refl _) (.cells cs.toArray 34))
  have hB2 := own_box (w := w1) (e := 34) hcl
  have hC2 : Below w.heap.size w (w1.alloc (.cells cs.toArray 34)) := hb1.trans (((Below.refl _ w1).alloc (Nat.le_refl _) _).mono hb1.size)
  generalize hw2 : w1.alloc (.cells cs.toArray 34) = w2 at *
  refine rest_end κ ?_
  refine wp_seq (wp_seq (region_rest sxMix fun w3 hh3 hb3 => ?_))
  have hP3 := hP2.next hb3
  have hatO : At w3 R (k + 0) [.slice ⌜g⌝ (os.length + 1) co] := At.row hP3.r rfl (seg_fst hrs)
  refine rest_reads (q := 6) (nl := [(5, ⟪R, k⟫), (6, ⟪R, k⟫), (7, ⟪R, k + 0⟫), (8, (.slice ⌜g⌝ (os.length + 1) co)), (9, (.int .i64 ((((os.length + 1) : Nat) : Int)))), (10, (.bool (decide ((((os.length + 1) : Nat) : Int) = (0 : Int)))))]) κ κ hfr1 rfl (.s rfl (δ ru_move rfl rfl)
    (.s rfl (δ ru_nil rfl rfl)
    (.s rfl (δ ru_field (d := 0) rfl κ rfl)
    (.s rfl (rd_of rfl rfl fun _ hw => ru_load rfl sxTyL rfl rfl (At.rd hatO (by simp) hw))
    (.s rfl (δ ru_len rfl sxUnd rfl)
    (.s rfl (δ ru_eq rfl rfl rfl)
    (.z))))))) (fun a hfr2 => ?_)
  refine rest_end κ ?_
  refine wp_cond (t := false) ((hfr2.get (t := 10) rfl).trans (by show Value.bool (decide _) = _; rw [decide_eq_false (by omega)])) ?_
  rw [if_neg (by simp)]
  refine wp_skip ?_
  refine wp_seq (region_rest sxMix fun w4 hh4 hb4 => ?_)
  have hP4 := hP3.next hb4
  have hatO : At w4 R (k + 0) [.slice ⌜g⌝ (os.length + 1) co] := At.row hP4.r rfl (seg_fst hrs)
  refine rest_reads (q := 12) (nl := [(22, ⟪R, k⟫), (23, ⟪R, k⟫), (24, ⟪R, k + 0⟫), (25, (.slice ⌜g⌝ (os.length + 1) co)), (26, ⟪R, k⟫), (27, ⟪R, k⟫), (28, ⟪R, k + 0⟫), (29, (.slice ⌜g⌝ (os.length + 1) co)), (30, (.int .i64 ((((os.length + 1) : Nat) : Int)))), (31, (.int .i64 (IntKind.i64.wrap ((((os.length + 1) : Nat) : Int) - (1 : Int))))), (32, ⟪g, 0 + Int.toNat (IntKind.i64.wrap ((((os.length + 1) : Nat) : Int) - (1 : Int))) * 7⟫), (4, ⟪g, 0 + Int.toNat (IntKind.i64.wrap ((((os.length + 1) : Nat) : Int) - (1 : Int))) * 7⟫)]) κ κ hfr2 rfl (.s rfl (δ ru_move rfl rfl)
    (.s rfl (δ ru_nil rfl rfl)
    (.s rfl (δ ru_field (d := 0) rfl κ rfl)
    (.s rfl (rd_of rfl rfl fun _ hw => ru_load rfl sxTyL rfl rfl (At.rd hatO (by simp) hw))
    (.s rfl (δ ru_move rfl rfl)
    (.s rfl (δ ru_nil rfl rfl)
    (.s rfl (δ ru_field (d := 0) rfl κ rfl)
    (.s rfl (rd_of rfl rfl fun _ hw => ru_load rfl sxTyL rfl rfl (At.rd hatO (by simp) hw))
    (.s rfl (δ ru_len rfl sxUnd rfl)
    (.s rfl (δ ru_sub rfl rfl rfl)
    (.s rfl (δ ru_index (sz := 7) rfl sxUnd sxSz rfl rfl (by rw [hwr]; omega) (by rw [hwr]; omega))
    (.s rfl (δ ru_assign rfl rfl)
    (.z))))))))))))) (fun a hfr3 => ?_)
  refine rest_end κ ?_
  refine region_rest sxMix fun w5 hh5 hb5 => ?_
  have hP5 := hP4.next hb5
  have hB5 : w5.ownsRow 0 34 7 (.slice ⌜w1.heap.size⌝ 1 1) 1 cs := ownsRow_same (ownsRow_same (ownsRow_same hB2 fun b hb => hb3.block b (hB2.lt b hb).2) fun b hb => hb4.block b (Nat.lt_of_lt_of_le (hB2.lt b hb).2 hb3.size)) fun b hb => hb5.block b (Nat.lt_of_lt_of_le (hB2.lt b hb).2 (Nat.le_trans hb3.size hb4.size))
  have hatB : At w5 w1.heap.size 0 cs := At.all hB5
  have ho5 := hP5.b.o
  rw [hol] at ho5
  have hatK : At w5 g (0 + Int.toNat (IntKind.i64.wrap (((os.length + 1 : Nat) : Int) - (1 : Int))) * 7 + 6) [.slice K pk.length ck] := At.row ho5 rfl (by rw [hof]; exact hx1)
  refine rest_new (q := 7) (j0 := 6) (ob := (.cells zCells.toArray 34)) (nl := [(33, ⟪g, 0 + Int.toNat (IntKind.i64.wrap ((((os.length + 1) : Nat) : Int) - (1 : Int))) * 7⟫), (34, ⟪g, 0 + Int.toNat (IntKind.i64.wrap ((((os.length + 1) : Nat) : Int) - (1 : Int))) * 7⟫), (35, ⟪g, 0 + Int.toNat (IntKind.i64.wrap ((((os.length + 1) : Nat) : Int) - (1 : Int))) * 7 + 6⟫), (36, (.slice K pk.length ck)), (37, (.agg (cs).toArray)), (38, (.int .i64 (((pk.length : Nat) : Int)))), (39, (.slice ⌜w5.heap.size⌝ 1 1))]) κ κ (by decide) hfr3 rfl (.s rfl (st_ne (by decide) (δ ru_move rfl rfl))
    (.s rfl (st_ne (by decide) (δ ru_nil rfl rfl))
    (.s rfl (st_ne (by decide) (δ ru_field (d := 6) rfl κ rfl))
    (.s rfl (st_ne (by decide) (rd_of rfl rfl fun _ hw => ru_load rfl sxTyL rfl rfl (At.rd hatK (by simp) hw)))
    (.s rfl (st_ne (by decide) (rd_of rfl rfl fun _ hw => ru_load rfl sxTyN hcl rfl (At.rd hatB hcp hw)))
    (.s rfl (st_ne (by decide) (δ ru_len rfl sxUnd rfl))
    (.s rfl (st_eq ⟨_, ru_bslice rfl sxUnd sxInfo rfl (by decide) (by decide) rfl rfl, fun d h1 _ => by cases h1; rfl⟩)
    (.z)))))))) (fun a hfr4 => ?_)
  obtain ⟨ys, hy, hyr⟩ := hP5.b.k os.length _ snoc_last
  simp only at hy hyr
  have hZ6 := own_box (w := w5) (e := 34) (cs := zCells) (n := 7) rfl
  have hP6 := hP5.next ((Below.refl _ w5).alloc (Nat.le_refl _) (.cells zCells.toArray 34))
  have hC6 : Below w.heap.size w (w5.alloc (.cells zCells.toArray 34)) := (((hC2.trans (hb3.mono hC2.size)).trans (hb4.mono (Nat.le_trans hC2.size hb3.size))).trans (hb5.mono (Nat.le_trans (Nat.le_trans hC2.size hb3.size) hb4.size))).trans (((Below.refl _ w5).alloc (Nat.le_refl _) _).mono (Nat.le_trans (Nat.le_trans (Nat.le_trans hC2.size hb3.size) hb4.size) hb5.size))
  have hy6 := hy.alloc (.cells zCells.toArray 34)
  have hyr6 := hyr.next (Agree.of_below ((Below.refl _ w5).alloc (Nat.le_refl _) (.cells zCells.toArray 34))) (fun _ _ h => h)
  generalize hw6 : w5.alloc (.cells zCells.toArray 34) = w6 at *
  obtain ⟨i0, hi0, hi1, hi2, hi3⟩ := sxInfo3
  refine rest_app κ κ rfl hfr4 κ rfl (ru_append rfl sxUnd hi0 hi1 hi2 hi3 rfl (by decide) rfl rfl hy6 rfl (At.all hZ6) (by decide) (by simp only [maxLen]; omega) (by omega)) ?_
  rintro v' w7 a ⟨hv, hgr, hvb⟩ hfr5
  obtain ⟨gv, cv, rfl⟩ := own_form hv (Nat.succ_pos _)
  have hgF : Foot (.slice ⌜g⌝ (os.length + 1) co) vd (os ++ [(⟨pt, .slice K pk.length ck, pk⟩ : OpD)]) g := .inl rfl
  have hgM : ¬ M g := hP6.b.m g hgF
  have hKg : (Value.slice K pk.length ck).ownBlock ≠ some g := fun e => (hP6.b.ok g os.length _ snoc_last e).1 rfl
  have hgv : gv ≠ g := by
    rintro rfl
    rcases hvb with e | e
    · exact hKg e.symm
    · have e : gv = w6.heap.size := Option.some.inj e
      have := hP6.b.lt hgF
      omega
  have ho7 := hP6.b.o
  rw [hol] at ho7
  have ho8 : w7.ownsRow 0 34 7 (.slice ⌜g⌝ (os.length + 1) co) (os.length + 1) (opsC (os ++ [(⟨pt, .slice K pk.length ck, pk⟩ : OpD)])) := ho7.kept hgr (.inr fun e => hKg e.symm)
  have hyl : ys.length = pk.length * 7 := hy.1
  refine rest_stores (q := 13) (j1 := 9) (j2 := 12) (g1 := gv) (g2 := g) (nl := [(41, ⟪gv, 0 + Int.toNat (((pk.length : Nat) : Int)) * 7⟫), (42, ⟪g, 0 + Int.toNat (IntKind.i64.wrap ((((os.length + 1) : Nat) : Int) - (1 : Int))) * 7⟫), (43, ⟪g, 0 + Int.toNat (IntKind.i64.wrap ((((os.length + 1) : Nat) : Int) - (1 : Int))) * 7 + 6⟫)]) (fun w => w.ownsRow 0 34 7 (.slice ⌜gv⌝ (pk.length + 1) cv) (pk.length + 1) (ys ++ zCells)) (fun w => w.ownsRow 0 34 7 (.slice ⌜gv⌝ (pk.length + 1) cv) (pk.length + 1) (splice (ys ++ zCells) (0 + Int.toNat ((pk.length : Nat) : Int) * 7) cs)) (fun w => w.ownsRow 0 34 7 (.slice ⌜g⌝ (os.length + 1) co) (os.length + 1) (opsC (os ++ [(⟨pt, .slice K pk.length ck, pk⟩ : OpD)]))) (fun w => w.ownsRow 0 34 7 (.slice ⌜g⌝ (os.length + 1) co) (os.length + 1) (splice (opsC (os ++ [(⟨pt, .slice K pk.length ck, pk⟩ : OpD)])) (0 + Int.toNat (IntKind.i64.wrap ((((os.length + 1) : Nat) : Int) - (1 : Int))) * 7 + 6) [.slice ⌜gv⌝ (pk.length + 1) cv])) κ κ (by decide) hfr5 rfl hv ho8 (fun w1 w2 h1 h2 => h1.kept h2 (.inr fun e => hgv (by cases e; rfl))) (fun w1 w2 h1 h2 => h1.kept h2 (.inr fun e => hgv (by cases e; rfl))) (fun w1 w2 h1 h2 => h1.kept h2 (.inr fun e => hgv (by cases e; rfl))) (fun w1 w2 h1 h2 => h1.kept h2 (.inr fun e => hgv (by cases e; rfl))) (.s rfl (st_ne (by decide) (st_ne (by decide) (ra_of rfl rfl fun _ => ru_index (sz := 7) rfl sxUnd sxSz rfl rfl (Int.natCast_nonneg _) (by omega))))
    (.s rfl (st_eq ⟨rfl, fun w1 h1 => rs_store rfl κ rfl rfl hcl hone h1 (by rw [List.length_append, hyl, hcl]; show _ ≤ _ + 7; omega)⟩)
    (.s rfl (st_ne (by decide) (st_ne (by decide) (ra_of rfl rfl fun _ => ru_nil rfl rfl)))
    (.s rfl (st_ne (by decide) (st_ne (by decide) (ra_of rfl rfl fun _ => ru_field (d := 6) rfl κ rfl)))
    (.s rfl (st_ne (by decide) (st_eq ⟨rfl, fun w1 h1 => rs_store rfl κ rfl rfl rfl (by simp [Value.oneCell']) h1 (by rw [hof, hxl]; simp; omega)⟩))
    (.z)))))) (fun a w8 hfr6 hs1 hs2 hch => ?_)
  refine rest_end κ ?_
  have hsp : splice (ys ++ zCells) (0 + Int.toNat ((pk.length : Nat) : Int) * 7) cs = ys ++ cs := by
    have e : 0 + Int.toNat ((pk.length : Nat) : Int) * 7 = ys.length + 0 := by rw [hyl]; simp
    rw [e, splice_right, splice_whole zCells cs (by rw [hcl]; rfl)]
  rw [hsp] at hs1
  have hsq : splice (opsC (os ++ [(⟨pt, .slice K pk.length ck, pk⟩ : OpD)])) (0 + Int.toNat (IntKind.i64.wrap (((os.length + 1 : Nat) : Int) - (1 : Int))) * 7 + 6) [.slice ⌜gv⌝ (pk.length + 1) cv] = (opsC os ++ tokC pt) ++ [.slice ⌜gv⌝ (pk.length + 1) cv] := by
    rw [hof, opsC_app, opsC_one, opC, ← List.append_assoc]
    have e : os.length * 7 + 6 = (opsC os ++ tokC pt).length + 0 := by rw [List.length_append, opsC_len]; rfl
    rw [e, splice_right]; rfl
  rw [hsq] at hs2
  have hKF : ∀ b, (Value.slice K pk.length ck).ownBlock = some b → Foot (.slice ⌜g⌝ (os.length + 1) co) vd (os ++ [(⟨pt, .slice K pk.length ck, pk⟩ : OpD)]) b := fun b hb => .inr (.inr ⟨_, _, snoc_last, hb⟩)
  have hout : Out M (fun b => (Value.slice K pk.length ck).ownBlock = some b ∨ (Value.slice ⌜g⌝ (os.length + 1) co).ownBlock = some b) w6 w8 := by
    refine ⟨Nat.le_trans hgr.size (Beyond.size hch), fun b hb hm hx => ?_⟩
    refine (Chg.block hch (Nat.lt_of_lt_of_le hb hgr.size) fun e => ?_).trans (hgr.block b hb fun e => hx (.inl e.symm))
    rcases e with rfl | rfl
    · rcases hvb with e | e
      · exact hx (.inl e.symm)
      · have e : b = w6.heap.size := Option.some.inj e
        omega
    · exact hx (.inr rfl)
  have hRF : ¬ Foot (.slice ⌜g⌝ (os.length + 1) co) vd (os ++ [(⟨pt, .slice K pk.length ck, pk⟩ : OpD)]) R := fun e => hP6.b.m R e hMR
  have hR8 : w8.ownsRow 0 eR sR (.slice ⌜R⌝ 1 c) 1 rs := by
    refine ownsRow_same hP6.r fun b hb => ?_
    have hb' : b = R := by simpa [Value.ownBlock] using hb.symm
    subst hb'
    have hlt := (hP6.r.lt b rfl).2
    refine (Chg.block hch (Nat.lt_of_lt_of_le hlt hgr.size) fun e => ?_).trans (hgr.block b hlt fun e => hRF (hKF b e.symm))
    rcases e with rfl | rfl
    · rcases hvb with e | e
      · exact hRF (hKF b e.symm)
      · have e : b = w6.heap.size := Option.some.inj e
        omega
    · exact hRF hgF
  refine post_end0 rfl hfr6.1 ⟨rfl, _, hP6.b.grow hP6.m hyr6 hP6.n hs1 hout hvb rfl hs2, hR8, ?_, foot_grow (p := ⟨pt, .slice K pk.length ck, pk⟩) hvb hC6.size⟩
  refine ((Chg.below hC6).then (Chg.grown' hgr) fun b _ e => hKF b e).then hch fun b hb e => ?_
  rcases e with rfl | rfl
  · rcases hvb with e | e
    · exact hKF b e.symm
    · have e : b = w6.heap.size := Option.some.inj e
      have := hC6.size; omega
  · exact hgF
theorem put_ok (h : PIn M w R c eR sR rs vo vd os ds n cs) (hMR : M R) (hrs : seg rs k 2 = [vo, vd]) {N : Nat} (hN : N < 1099511627776) (hlim : BLim N (absO os, ds)) :
    Calls Tryd.prog 71 #[⟪R, k⟫, .agg cs.toArray] w fun e w' => e = .returned (.tuple #[]) ∧ ∃ vo' vd' os' ds', BOk M 34 w' vo' vd' os' ds' ∧ (absO os', ds') = bputS (absO os, ds) n ∧
      w'.ownsRow 0 eR sR (.slice ⌜R⌝ 1 c) 1 (splice rs k [vo', vd']) ∧ Chg (fun b => b = R ∨ Foot vo vd os b) w w' ∧ ∀ b, b < w.heap.size → Foot vo' vd' os' b → Foot vo vd os b := by
  rcases List.eq_nil_or_concat os with rfl | ⟨os, p, rfl⟩
  · refine Calls.mono (put_done h hMR hrs (Nat.lt_of_le_of_lt hlim.1 hN)) ?_
    rintro e w' ⟨he, vd', h1, h2, h3, h4⟩
    exact ⟨he, vo, vd', [], ds ++ [n], h1, rfl, by rw [(splice_two hrs vo vd').2.2.1] at h2; exact h2, h3, h4⟩
  · rw [List.concat_eq_append] at h hlim
    have hp := hlim.2.2 (p.t, p.k) (by rw [absO_snoc]; exact List.mem_cons_self ..)
    have hl := hlim.2.1
    rw [absO_len] at hl
    simp at hl
    refine Calls.mono (put_kid h hMR hrs (by omega) (Nat.lt_of_le_of_lt hp hN)) ?_
    rintro e w' ⟨he, v', h1, h2, h3, h4⟩
    refine ⟨he, vo, vd, os ++ [⟨p.t, v', p.k ++ [n]⟩], ds, h1, by rw [absO_snoc, List.concat_eq_append, absO_snoc]; rfl, by rw [(splice_two hrs vo vd).2.1]; exact h2, ?_, ?_⟩
    · rw [List.concat_eq_append]
      exact h3.mono fun b hb => .inr hb
    · rw [List.concat_eq_append]
      exact h4
theorem take_open {t : TokD} (h : TIn M w R c eR sR rs vo vd os ds) (hMR : M R) (hrs : seg rs k 2 = [vo, vd]) (ht : t.1 = 1) (hl : os.length < 1000) :
    Calls Tryd.prog 51 #[⟪R, k⟫, .agg (tokC t).toArray] w fun e w' => e = .returned (.tuple #[]) ∧ ∃ vo', BOk M 34 w' vo' vd (os ++ [⟨openTok t, .slice none 0 0, []⟩]) ds ∧ w'.ownsRow 0 eR sR (.slice ⌜R⌝ 1 c) 1 (splice rs (k + 0) [vo']) ∧ Chg (fun b => b = R ∨ Foot vo vd os b) w w' ∧ ∀ b, b < w.heap.size → Foot vo' vd (os ++ [⟨openTok t, .slice none 0 0, []⟩]) b → Foot vo vd os b := by
  obtain ⟨A, co, rfl⟩ := own_slice h.b.o
  have hrl : k + 2 ≤ rs.length := seg_two hrs
  refine calls_of_wp Tryd.func51 rfl ?_
  have hfr : Fr [] 86 [(0, ⟪R, k⟫), (1, .agg (tokC t).toArray)] { tmps := #[⟪R, k⟫, .agg (tokC t).toArray] ++ Array.replicate (86 - 2) undef, defers := [] } := fr_entry (args := #[⟪R, k⟫, .agg (tokC t).toArray]) (by simp) (fun t ht => by
    rcases t with _ | _ | t
    · exact ⟨by simp, rfl⟩
    · exact ⟨by simp, rfl⟩
    · exact absurd ht (by simp [hasK]))
  change Code.wp _ _ _ { tmps := #[⟪R, k⟫, .agg (tokC t).toArray] ++ Array.replicate (86 - 2) undef, defers := [] } _
  generalize ({ tmps := #[⟪R, k⟫, .agg (tokC t).toArray] ++ Array.replicate (86 - 2) undef, defers := [] } : Act) = a at hfr ⊢
  refine wp_seq (region_rest sxMix fun w1 hh1 hb1 => ?_)
  refine rest_new (q := 1) (j0 := 0) (ob := (.cells (tokC t).toArray 32)) (nl := [(3, ⟪w1.heap.size, 0⟫)]) κ κ (by decide) hfr rfl (.s rfl (st_eq ⟨_, ru_box rfl rfl, fun d h1 _ => by cases h1; rfl⟩)
    (.z)) (fun a hfr1 => ?_)
  have hP2 := (h.next hb1).next ((Below.refl _ w1).alloc (Nat.le_refl _) (.cells (tokC t).toArray 32))
  have hB := own_box (w := w1) (e := 32) (cs := tokC t) (n := 6) rfl
  have hC2 : Below w.heap.size w (w1.alloc (.cells (tokC t).toArray 32)) := hb1.trans (((Below.refl _ w1).alloc (Nat.le_refl _) _).mono hb1.size)
  generalize hw2 : w1.alloc (.cells (tokC t).toArray 32) = w2 at *
  refine rest_end κ ?_
  refine wp_seq (region_rest sxMix fun w3 hh3 hb3 => ?_)
  have hP3 := hP2.next hb3
  replace hB := row_next hB hb3
  have hC3 := hC2.trans (hb3.mono hC2.size)
  refine rest_reads (q := 2) (nl := [(5, ⟪w1.heap.size, 0 + 0⟫), (6, (.int .i64 (t.1)))]) κ κ hfr1 rfl (.s rfl (δ ru_field (d := 0) rfl κ rfl)
    (.s rfl (rd_of rfl rfl fun _ hw => ru_load rfl sxTyI rfl rfl (At.rd (At.row (cs := [(.int .i64 (t.1))]) hB rfl rfl) (by simp) hw))
    (.z))) (fun a hfr2 => ?_)
  refine rest_end κ ?_
  refine wp_block (wp_seq (region_rest sxMix fun w4 hh4 hb4 => ?_))
  have hP4 := hP3.next hb4
  replace hB := row_next hB hb4
  have hC4 := hC3.trans (hb4.mono hC3.size)
  refine rest_reads (q := 2) (nl := [(12, (.bool (decide (t.1 = (1 : Int))))), (11, (.bool (decide (t.1 = (1 : Int)))))]) κ κ hfr2 rfl (.s rfl (δ ru_eq rfl rfl rfl)
    (.s rfl (δ ru_assign rfl rfl)
    (.z))) (fun a hfr4 => ?_)
  refine rest_end κ ?_
  refine wp_cond_true ((hfr4.get (t := 11) rfl).trans (by show Value.bool (decide _) = _; rw [decide_eq_true ht])) ?_
  refine wp_seq (wp_seq (region_rest sxMix fun w5 hh5 hb5 => ?_))
  have hP5 := hP4.next hb5
  replace hB := row_next hB hb5
  have hC5 := hC4.trans (hb5.mono hC4.size)
  have hatO : At w5 R (k + 0) [.slice A os.length co] := At.row hP5.r rfl (seg_fst hrs)
  refine rest_reads (q := 6) (nl := [(13, ⟪R, k⟫), (14, ⟪R, k⟫), (15, ⟪R, k + 0⟫), (16, (.slice A os.length co)), (17, (.int .i64 (((os.length : Nat) : Int)))), (18, (.bool (decide (((os.length : Nat) : Int) = (1000 : Int)))))]) κ κ hfr4 rfl (.s rfl (δ ru_move rfl rfl)
    (.s rfl (δ ru_nil rfl rfl)
    (.s rfl (δ ru_field (d := 0) rfl κ rfl)
    (.s rfl (rd_of rfl rfl fun _ hw => ru_load rfl sxTyL rfl rfl (At.rd hatO (by simp) hw))
    (.s rfl (δ ru_len rfl sxUnd rfl)
    (.s rfl (δ ru_eq rfl rfl rfl)
    (.z))))))) (fun a hfr5 => ?_)
  refine rest_end κ ?_
  refine wp_cond_false ((hfr5.get (t := 18) rfl).trans (by show Value.bool (decide _) = _; rw [decide_eq_false (by omega)])) ?_
  refine wp_skip ?_
  refine region_rest sxMix fun w6 hh6 hb6 => ?_
  have hP6 := hP5.next hb6
  replace hB := row_next hB hb6
  have hC6 := hC5.trans (hb6.mono hC5.size)
  have hatO : At w6 R (k + 0) [.slice A os.length co] := At.row hP6.r rfl (seg_fst hrs)
  refine rest_new (q := 14) (j0 := 13) (ob := (.cells zCells.toArray 34)) (nl := [(23, ⟪R, k⟫), (24, ⟪R, k⟫), (25, ⟪R, k + 0⟫), (26, (.slice A os.length co)), (27, ⟪w1.heap.size, 0 + 2⟫), (28, (.int .i64 (t.2.2.1))), (29, ⟪w1.heap.size, 0 + 4⟫), (30, (.int .i64 (t.2.2.2.2.1))), (31, ⟪w1.heap.size, 0 + 5⟫), (32, (.int .i64 (t.2.2.2.2.2))), (33, (.agg (tokC (openTok t)).toArray)), (34, (.agg (tokC (openTok t) ++ [Value.slice none 0 0]).toArray)), (35, (.int .i64 (((os.length : Nat) : Int)))), (36, (.slice ⌜w6.heap.size⌝ 1 1))]) κ κ (by decide) hfr5 rfl (.s rfl (st_ne (by decide) (δ ru_move rfl rfl))
    (.s rfl (st_ne (by decide) (δ ru_nil rfl rfl))
    (.s rfl (st_ne (by decide) (δ ru_field (d := 0) rfl κ rfl))
    (.s rfl (st_ne (by decide) (rd_of rfl rfl fun _ hw => ru_load rfl sxTyL rfl rfl (At.rd hatO (by simp) hw)))
    (.s rfl (st_ne (by decide) (δ ru_field (d := 2) rfl κ rfl))
    (.s rfl (st_ne (by decide) (rd_of rfl rfl fun _ hw => ru_load rfl sxTyI rfl rfl (At.rd (At.row (cs := [(.int .i64 (t.2.2.1))]) hB rfl rfl) (by simp) hw)))
    (.s rfl (st_ne (by decide) (δ ru_field (d := 4) rfl κ rfl))
    (.s rfl (st_ne (by decide) (rd_of rfl rfl fun _ hw => ru_load rfl sxTyI rfl rfl (At.rd (At.row (cs := [(.int .i64 (t.2.2.2.2.1))]) hB rfl rfl) (by simp) hw)))
    (.s rfl (st_ne (by decide) (δ ru_field (d := 5) rfl κ rfl))
    (.s rfl (st_ne (by decide) (rd_of rfl rfl fun _ hw => ru_load rfl sxTyI rfl rfl (At.rd (At.row (cs := [(.int .i64 (t.2.2.2.2.2))]) hB rfl rfl) (by simp) hw)))
    (.s rfl (st_ne (by decide) (δ ru_build rfl κ))
    (.s rfl (st_ne (by decide) (δ ru_build rfl κ))
    (.s rfl (st_ne (by decide) (δ ru_len rfl sxUnd rfl))
    (.s rfl (st_eq ⟨_, ru_bslice rfl sxUnd sxInfo rfl (by decide) (by decide) rfl rfl, fun d h1 _ => by cases h1; rfl⟩)
    (.z))))))))))))))) (fun a hfr6 => ?_)
  have hZ7 := own_box (w := w6) (e := 34) (cs := zCells) (n := 7) rfl
  have hb7 : Below w6.heap.size w6 (w6.alloc (.cells zCells.toArray 34)) := (Below.refl _ w6).alloc (Nat.le_refl _) (.cells zCells.toArray 34)
  have hP7 := hP6.next hb7
  have hC7 := hC6.trans (hb7.mono hC6.size)
  generalize hw7 : w6.alloc (.cells zCells.toArray 34) = w7 at *
  obtain ⟨i0, hi0, hi1, hi2, hi3⟩ := sxInfo3
  refine rest_app κ κ rfl hfr6 κ rfl (ru_append rfl sxUnd hi0 hi1 hi2 hi3 rfl (by decide) rfl rfl hP7.b.o rfl (At.all hZ7) (by decide) (by simp only [maxLen]; omega) (by omega)) ?_
  rintro v' w8 a ⟨hv, hgr, hvb⟩ hfr7
  obtain ⟨gv, cv, rfl⟩ := own_form hv (Nat.succ_pos _)
  have hgM : ¬ M gv := by
    rcases hvb with e | e
    · exact hP7.b.m gv (.inl e.symm)
    · intro hm
      have := hP7.m gv hm
      have e : gv = w7.heap.size := Option.some.inj e
      omega
  have hgR : gv ≠ R := fun e => hgM (e ▸ hMR)
  have hRv : (Value.slice A os.length co).ownBlock ≠ some R := fun e => hP7.b.m R (.inl e) hMR
  have hr8 : w8.ownsRow 0 eR sR (.slice ⌜R⌝ 1 c) 1 rs := hP7.r.kept hgr (.inr fun e => hRv e.symm)
  have hol := opsC_len os
  refine rest_stores (q := 20) (j1 := 16) (j2 := 19) (g1 := gv) (g2 := R) (nl := [(38, ⟪gv, 0 + Int.toNat (((os.length : Nat) : Int)) * 7⟫), (39, ⟪R, k⟫), (40, ⟪R, k + 0⟫)]) (fun w => w.ownsRow 0 34 7 (.slice ⌜gv⌝ (os.length + 1) cv) (os.length + 1) (opsC os ++ zCells)) (fun w => w.ownsRow 0 34 7 (.slice ⌜gv⌝ (os.length + 1) cv) (os.length + 1) (splice (opsC os ++ zCells) (0 + Int.toNat ((os.length : Nat) : Int) * 7) (tokC (openTok t) ++ [Value.slice none 0 0]))) (fun w => w.ownsRow 0 eR sR (.slice ⌜R⌝ 1 c) 1 rs) (fun w => w.ownsRow 0 eR sR (.slice ⌜R⌝ 1 c) 1 (splice rs (k + 0) [.slice ⌜gv⌝ (os.length + 1) cv])) κ κ (by decide) hfr7 rfl hv hr8 (fun w1 w2 h1 h2 => h1.kept h2 (.inr fun e => hgR (by cases e; rfl))) (fun w1 w2 h1 h2 => h1.kept h2 (.inr fun e => hgR (by cases e; rfl))) (fun w1 w2 h1 h2 => h1.kept h2 (.inr fun e => hgR (by cases e; rfl))) (fun w1 w2 h1 h2 => h1.kept h2 (.inr fun e => hgR (by cases e; rfl))) (.s rfl (st_ne (by decide) (st_ne (by decide) (ra_of rfl rfl fun _ => ru_index (sz := 7) rfl sxUnd sxSz rfl rfl (Int.natCast_nonneg _) (by omega))))
    (.s rfl (st_eq ⟨rfl, fun w1 h1 => rs_store rfl κ rfl rfl rfl (tok_one _ _ rfl) h1 (by show 0 + Int.toNat _ * 7 + 7 ≤ _; rw [List.length_append, hol]; show _ ≤ _ + 7; omega)⟩)
    (.s rfl (st_ne (by decide) (st_ne (by decide) (ra_of rfl rfl fun _ => ru_nil rfl rfl)))
    (.s rfl (st_ne (by decide) (st_ne (by decide) (ra_of rfl rfl fun _ => ru_field (d := 0) rfl κ rfl)))
    (.s rfl (st_ne (by decide) (st_eq ⟨rfl, fun w1 h1 => rs_store rfl κ rfl rfl rfl (by simp [Value.oneCell']) h1 (by simp; omega)⟩))
    (.z)))))) (fun a w9 hfr8 hs1 hs2 hch => ?_)
  refine rest_end κ ?_
  have hsp : splice (opsC os ++ zCells) (0 + Int.toNat ((os.length : Nat) : Int) * 7) (tokC (openTok t) ++ [Value.slice none 0 0]) = opsC os ++ (tokC (openTok t) ++ [Value.slice none 0 0]) := by
    have e : 0 + Int.toNat ((os.length : Nat) : Int) * 7 = (opsC os).length + 0 := by rw [hol]; simp
    rw [e, splice_right]; rfl
  rw [hsp] at hs1
  have hout : Out M (fun b => (Value.slice A os.length co).ownBlock = some b) w7 w9 := by
    refine ⟨Nat.le_trans hgr.size (Beyond.size hch), fun b hb hm hx => ?_⟩
    refine (Chg.block hch (Nat.lt_of_lt_of_le hb hgr.size) fun e => ?_).trans (hgr.block b hb fun e => hx e.symm)
    rcases e with rfl | rfl
    · rcases hvb with e | e
      · exact hx e.symm
      · have e : b = w7.heap.size := Option.some.inj e
        omega
    · exact hm hMR
  simp only [Exit.inBlock]
  refine post_end0 rfl hfr8.1 ⟨rfl, _, hP7.b.opened hP7.m hs1 hout hvb, hs2, ?_, foot_opened hvb hC7.size⟩
  refine ((Chg.below hC7).then (Chg.grown' hgr) fun b _ e => .inr (.inl e)).then hch fun b hb e => ?_
  rcases e with rfl | rfl
  · rcases hvb with e | e
    · exact .inr (.inl e.symm)
    · have e : b = w7.heap.size := Option.some.inj e
      have := hC7.size; omega
  · exact .inl rfl
theorem take_full {t : TokD} (h : TIn M w R c eR sR rs vo vd os ds) (hrs : seg rs k 2 = [vo, vd]) (ht : t.1 = 1) (hl : os.length = 1000) :
    Calls Tryd.prog 51 #[⟪R, k⟫, .agg (tokC t).toArray] w fun e w' => e = .panicked [{ v := (.iface 61 (.agg #[.int .i64 132, .int .i64 t.2.2.1])), recovered := false }] ∧ Below w.heap.size w w' := by
  obtain ⟨A, co, rfl⟩ := own_slice h.b.o
  refine calls_of_wp Tryd.func51 rfl ?_
  have hfr : Fr [] 86 [(0, ⟪R, k⟫), (1, .agg (tokC t).toArray)] { tmps := #[⟪R, k⟫, .agg (tokC t).toArray] ++ Array.replicate (86 - 2) undef, defers := [] } := fr_entry (args := #[⟪R, k⟫, .agg (tokC t).toArray]) (by simp) (fun t ht => by
    rcases t with _ | _ | t
    · exact ⟨by simp, rfl⟩
    · exact ⟨by simp, rfl⟩
    · exact absurd ht (by simp [hasK]))
  change Code.wp _ _ _ { tmps := #[⟪R, k⟫, .agg (tokC t).toArray] ++ Array.replicate (86 - 2) undef, defers := [] } _
  generalize ({ tmps := #[⟪R, k⟫, .agg (tokC t).toArray] ++ Array.replicate (86 - 2) undef, defers := [] } : Act) = a at hfr ⊢
  refine wp_seq (region_rest sxMix fun w1 hh1 hb1 => ?_)
  refine rest_new (q := 1) (j0 := 0) (ob := (.cells (tokC t).toArray 32)) (nl := [(3, ⟪w1.heap.size, 0⟫)]) κ κ (by decide) hfr rfl (.s rfl (st_eq ⟨_, ru_box rfl rfl, fun d h1 _ => by cases h1; rfl⟩)
    (.z)) (fun a hfr1 => ?_)
  have hP2 := (h.next hb1).next ((Below.refl _ w1).alloc (Nat.le_refl _) (.cells (tokC t).toArray 32))
  have hB := own_box (w := w1) (e := 32) (cs := tokC t) (n := 6) rfl
  have hC2 : Below w.heap.size w (w1.alloc (.cells (tokC t).toArray 32)) := hb1.trans (((Below.refl _ w1).alloc (Nat.le_refl _) _).mono hb1.size)
  generalize hw2 : w1.alloc (.cells (tokC t).toArray 32) = w2 at *
  refine rest_end κ ?_
  refine wp_seq (region_rest sxMix fun w3 hh3 hb3 => ?_)
  have hP3 := hP2.next hb3
  replace hB := row_next hB hb3
  have hC3 := hC2.trans (hb3.mono hC2.size)
  refine rest_reads (q := 2) (nl := [(5, ⟪w1.heap.size, 0 + 0⟫), (6, (.int .i64 (t.1)))]) κ κ hfr1 rfl (.s rfl (δ ru_field (d := 0) rfl κ rfl)
    (.s rfl (rd_of rfl rfl fun _ hw => ru_load rfl sxTyI rfl rfl (At.rd (At.row (cs := [(.int .i64 (t.1))]) hB rfl rfl) (by simp) hw))
    (.z))) (fun a hfr2 => ?_)
  refine rest_end κ ?_
  refine wp_block (wp_seq (region_rest sxMix fun w4 hh4 hb4 => ?_))
  have hP4 := hP3.next hb4
  replace hB := row_next hB hb4
  have hC4 := hC3.trans (hb4.mono hC3.size)
  refine rest_reads (q := 2) (nl := [(12, (.bool (decide (t.1 = (1 : Int))))), (11, (.bool (decide (t.1 = (1 : Int)))))]) κ κ hfr2 rfl (.s rfl (δ ru_eq rfl rfl rfl)
    (.s rfl (δ ru_assign rfl rfl)
    (.z))) (fun a hfr4 => ?_)
  refine rest_end κ ?_
  refine wp_cond_true ((hfr4.get (t := 11) rfl).trans (by show Value.bool (decide _) = _; rw [decide_eq_true ht])) ?_
  refine wp_seq (wp_seq (region_rest sxMix fun w5 hh5 hb5 => ?_))
  have hP5 := hP4.next hb5
  replace hB := row_next hB hb5
  have hC5 := hC4.trans (hb5.mono hC4.size)
  have hatO : At w5 R (k + 0) [.slice A os.length co] := At.row hP5.r rfl (seg_fst hrs)
  refine rest_reads (q := 6) (nl := [(13, ⟪R, k⟫), (14, ⟪R, k⟫), (15, ⟪R, k + 0⟫), (16, (.slice A os.length co)), (17, (.int .i64 (((os.length : Nat) : Int)))), (18, (.bool (decide (((os.length : Nat) : Int) = (1000 : Int)))))]) κ κ hfr4 rfl (.s rfl (δ ru_move rfl rfl)
    (.s rfl (δ ru_nil rfl rfl)
    (.s rfl (δ ru_field (d := 0) rfl κ rfl)
    (.s rfl (rd_of rfl rfl fun _ hw => ru_load rfl sxTyL rfl rfl (At.rd hatO (by simp) hw))
    (.s rfl (δ ru_len rfl sxUnd rfl)
    (.s rfl (δ ru_eq rfl rfl rfl)
    (.z))))))) (fun a hfr5 => ?_)
  refine rest_end κ ?_
  refine wp_cond_true ((hfr5.get (t := 18) rfl).trans (by show Value.bool (decide _) = _; rw [decide_eq_true (by omega)])) ?_
  refine region_rest sxMix fun w6 hh6 hb6 => ?_
  have hP6 := hP5.next hb6
  replace hB := row_next hB hb6
  have hC6 := hC5.trans (hb6.mono hC5.size)
  refine rest_reads (q := 4) (nl := [(19, ⟪w1.heap.size, 0 + 2⟫), (20, (.int .i64 (t.2.2.1))), (21, (.agg ([.int .i64 132, .int .i64 t.2.2.1]).toArray)), (22, (.iface 61 (.agg ([.int .i64 132, .int .i64 t.2.2.1]).toArray)))]) κ κ hfr5 rfl (.s rfl (δ ru_field (d := 2) rfl κ rfl)
    (.s rfl (rd_of rfl rfl fun _ hw => ru_load rfl sxTyI rfl rfl (At.rd (At.row (cs := [(.int .i64 (t.2.2.1))]) hB rfl rfl) (by simp) hw))
    (.s rfl (δ ru_build rfl κ)
    (.s rfl (δ ru_iface rfl sxWr rfl)
    (.z))))) (fun a hfr6 => ?_)
  refine rest_panic κ κ rfl hfr6 κ rfl rfl ?_
  exact ⟨hfr6.1, rfl, hC6⟩
theorem take_paren {t : TokD} (h : TIn M w R c eR sR rs vo vd [] ds) (hrs : seg rs k 2 = [vo, vd]) (ht : t.1 = 2) :
    Calls Tryd.prog 51 #[⟪R, k⟫, .agg (tokC t).toArray] w fun e w' => e = .panicked [{ v := (.iface 61 (.agg #[.int .i64 130, .int .i64 t.2.2.1])), recovered := false }] ∧ Below w.heap.size w w' := by
  obtain ⟨A, co, rfl⟩ := own_slice h.b.o
  refine calls_of_wp Tryd.func51 rfl ?_
  have hfr : Fr [] 86 [(0, ⟪R, k⟫), (1, .agg (tokC t).toArray)] { tmps := #[⟪R, k⟫, .agg (tokC t).toArray] ++ Array.replicate (86 - 2) undef, defers := [] } := fr_entry (args := #[⟪R, k⟫, .agg (tokC t).toArray]) (by simp) (fun t ht => by
    rcases t with _ | _ | t
    · exact ⟨by simp, rfl⟩
    · exact ⟨by simp, rfl⟩
    · exact absurd ht (by simp [hasK]))
  change Code.wp _ _ _ { tmps := #[⟪R, k⟫, .agg (tokC t).toArray] ++ Array.replicate (86 - 2) undef, defers := [] } _
  generalize ({ tmps := #[⟪R, k⟫, .agg (tokC t).toArray] ++ Array.replicate (86 - 2) undef, defers := [] } : Act) = a at hfr ⊢
  refine wp_seq (region_rest sxMix fun w1 hh1 hb1 => ?_)
  refine rest_new (q := 1) (j0 := 0) (ob := (.cells (tokC t).toArray 32)) (nl := [(3, ⟪w1.heap.size, 0⟫)]) κ κ (by decide) hfr rfl (.s rfl (st_eq ⟨_, ru_box rfl rfl, fun d h1 _ => by cases h1; rfl⟩)
    (.z)) (fun a hfr1 => ?_)
  have hP2 := (h.next hb1).next ((Below.refl _ w1).alloc (Nat.le_refl _) (.cells (tokC t).toArray 32))
  have hB := own_box (w := w1) (e := 32) (cs := tokC t) (n := 6) rfl
  have hC2 : Below w.heap.size w (w1.alloc (.cells (tokC t).toArray 32)) := hb1.trans (((Below.refl _ w1).alloc (Nat.le_refl _) _).mono hb1.size)
  generalize hw2 : w1.alloc (.cells (tokC t).toArray 32) = w2 at *
  refine rest_end κ ?_
  refine wp_seq (region_rest sxMix fun w3 hh3 hb3 => ?_)
  have hP3 := hP2.next hb3
  replace hB := row_next hB hb3
  have hC3 := hC2.trans (hb3.mono hC2.size)
  refine rest_reads (q := 2) (nl := [(5, ⟪w1.heap.size, 0 + 0⟫), (6, (.int .i64 (t.1)))]) κ κ hfr1 rfl (.s rfl (δ ru_field (d := 0) rfl κ rfl)
    (.s rfl (rd_of rfl rfl fun _ hw => ru_load rfl sxTyI rfl rfl (At.rd (At.row (cs := [(.int .i64 (t.1))]) hB rfl rfl) (by simp) hw))
    (.z))) (fun a hfr2 => ?_)
  refine rest_end κ ?_
  refine wp_block (wp_seq (region_rest sxMix fun w4 hh4 hb4 => ?_))
  have hP4 := hP3.next hb4
  replace hB := row_next hB hb4
  have hC4 := hC3.trans (hb4.mono hC3.size)
  refine rest_reads (q := 2) (nl := [(12, (.bool (decide (t.1 = (1 : Int))))), (11, (.bool (decide (t.1 = (1 : Int)))))]) κ κ hfr2 rfl (.s rfl (δ ru_eq rfl rfl rfl)
    (.s rfl (δ ru_assign rfl rfl)
    (.z))) (fun a hfr4 => ?_)
  refine rest_end κ ?_
  refine wp_cond_false ((hfr4.get (t := 11) rfl).trans (by show Value.bool (decide _) = _; rw [decide_eq_false (by omega)])) ?_
  refine wp_seq (region_rest sxMix fun w5 hh5 hb5 => ?_)
  have hP5 := hP4.next hb5
  replace hB := row_next hB hb5
  have hC5 := hC4.trans (hb5.mono hC4.size)
  refine rest_reads (q := 2) (nl := [(42, (.bool (decide (t.1 = (2 : Int))))), (41, (.bool (decide (t.1 = (2 : Int)))))]) κ κ hfr4 rfl (.s rfl (δ ru_eq rfl rfl rfl)
    (.s rfl (δ ru_assign rfl rfl)
    (.z))) (fun a hfr5 => ?_)
  refine rest_end κ ?_
  refine wp_cond_true ((hfr5.get (t := 41) rfl).trans (by show Value.bool (decide _) = _; rw [decide_eq_true ht])) ?_
  refine wp_seq (wp_seq (region_rest sxMix fun w6 hh6 hb6 => ?_))
  have hP6 := hP5.next hb6
  replace hB := row_next hB hb6
  have hC6 := hC5.trans (hb6.mono hC5.size)
  have hatO : At w6 R (k + 0) [.slice A 0 co] := At.row hP6.r rfl (seg_fst hrs)
  refine rest_reads (q := 6) (nl := [(43, ⟪R, k⟫), (44, ⟪R, k⟫), (45, ⟪R, k + 0⟫), (46, (.slice A 0 co)), (47, (.int .i64 (((0 : Nat) : Int)))), (48, (.bool (decide (((0 : Nat) : Int) = (0 : Int)))))]) κ κ hfr5 rfl (.s rfl (δ ru_move rfl rfl)
    (.s rfl (δ ru_nil rfl rfl)
    (.s rfl (δ ru_field (d := 0) rfl κ rfl)
    (.s rfl (rd_of rfl rfl fun _ hw => ru_load rfl sxTyL rfl rfl (At.rd hatO (by simp) hw))
    (.s rfl (δ ru_len rfl sxUnd rfl)
    (.s rfl (δ ru_eq rfl rfl rfl)
    (.z))))))) (fun a hfr6 => ?_)
  refine rest_end κ ?_
  refine wp_cond_true ((hfr6.get (t := 48) rfl).trans (by show Value.bool (decide _) = _; simp)) ?_
  refine region_rest sxMix fun w7 hh7 hb7 => ?_
  have hP7 := hP6.next hb7
  replace hB := row_next hB hb7
  have hC7 := hC6.trans (hb7.mono hC6.size)
  refine rest_reads (q := 4) (nl := [(49, ⟪w1.heap.size, 0 + 2⟫), (50, (.int .i64 (t.2.2.1))), (51, (.agg ([.int .i64 130, .int .i64 t.2.2.1]).toArray)), (52, (.iface 61 (.agg ([.int .i64 130, .int .i64 t.2.2.1]).toArray)))]) κ κ hfr6 rfl (.s rfl (δ ru_field (d := 2) rfl κ rfl)
    (.s rfl (rd_of rfl rfl fun _ hw => ru_load rfl sxTyI rfl rfl (At.rd (At.row (cs := [(.int .i64 (t.2.2.1))]) hB rfl rfl) (by simp) hw))
    (.s rfl (δ ru_build rfl κ)
    (.s rfl (δ ru_iface rfl sxWr rfl)
    (.z))))) (fun a hfr7 => ?_)
  refine rest_panic κ κ rfl hfr7 κ rfl rfl ?_
  exact ⟨hfr7.1, rfl, hC7⟩
theorem take_tok {t : TokD} (h : TIn M w R c eR sR rs vo vd os ds) (hMR : M R) (hrs : seg rs k 2 = [vo, vd]) (ht1 : t.1 ≠ 1) (ht2 : t.1 ≠ 2) {N : Nat} (hN : N < 1099511627776) (hlim : BLim N (absO os, ds)) :
    Calls Tryd.prog 51 #[⟪R, k⟫, .agg (tokC t).toArray] w fun e w' => e = .returned (.tuple #[]) ∧ ∃ vo' vd' os' ds', BOk M 34 w' vo' vd' os' ds' ∧ (absO os', ds') = bputS (absO os, ds) (.mk t []) ∧
      w'.ownsRow 0 eR sR (.slice ⌜R⌝ 1 c) 1 (splice rs k [vo', vd']) ∧ Chg (fun b => b = R ∨ Foot vo vd os b) w w' ∧ ∀ b, b < w.heap.size → Foot vo' vd' os' b → Foot vo vd os b := by
  refine calls_of_wp Tryd.func51 rfl ?_
  have hfr : Fr [] 86 [(0, ⟪R, k⟫), (1, .agg (tokC t).toArray)] { tmps := #[⟪R, k⟫, .agg (tokC t).toArray] ++ Array.replicate (86 - 2) undef, defers := [] } := fr_entry (args := #[⟪R, k⟫, .agg (tokC t).toArray]) (by simp) (fun t ht => by
    rcases t with _ | _ | t
    · exact ⟨by simp, rfl⟩
    · exact ⟨by simp, rfl⟩
    · exact absurd ht (by simp [hasK]))
  change Code.wp _ _ _ { tmps := #[⟪R, k⟫, .agg (tokC t).toArray] ++ Array.replicate (86 - 2) undef, defers := [] } _
  generalize ({ tmps := #[⟪R, k⟫, .agg (tokC t).toArray] ++ Array.replicate (86 - 2) undef, defers := [] } : Act) = a at hfr ⊢
  refine wp_seq (region_rest sxMix fun w1 hh1 hb1 => ?_)
  refine rest_new (q := 1) (j0 := 0) (ob := (.cells (tokC t).toArray 32)) (nl := [(3, ⟪w1.heap.size, 0⟫)]) κ κ (by decide) hfr rfl (.s rfl (st_eq ⟨_, ru_box rfl rfl, fun d h1 _ => by cases h1; rfl⟩)
    (.z)) (fun a hfr1 => ?_)
  have hP2 := (h.next hb1).next ((Below.refl _ w1).alloc (Nat.le_refl _) (.cells (tokC t).toArray 32))
  have hB := own_box (w := w1) (e := 32) (cs := tokC t) (n := 6) rfl
  have hC2 : Below w.heap.size w (w1.alloc (.cells (tokC t).toArray 32)) := hb1.trans (((Below.refl _ w1).alloc (Nat.le_refl _) _).mono hb1.size)
  generalize hw2 : w1.alloc (.cells (tokC t).toArray 32) = w2 at *
  refine rest_end κ ?_
  refine wp_seq (region_rest sxMix fun w3 hh3 hb3 => ?_)
  have hP3 := hP2.next hb3
  replace hB := row_next hB hb3
  have hC3 := hC2.trans (hb3.mono hC2.size)
  refine rest_reads (q := 2) (nl := [(5, ⟪w1.heap.size, 0 + 0⟫), (6, (.int .i64 (t.1)))]) κ κ hfr1 rfl (.s rfl (δ ru_field (d := 0) rfl κ rfl)
    (.s rfl (rd_of rfl rfl fun _ hw => ru_load rfl sxTyI rfl rfl (At.rd (At.row (cs := [(.int .i64 (t.1))]) hB rfl rfl) (by simp) hw))
    (.z))) (fun a hfr2 => ?_)
  refine rest_end κ ?_
  refine wp_block (wp_seq (region_rest sxMix fun w4 hh4 hb4 => ?_))
  have hP4 := hP3.next hb4
  replace hB := row_next hB hb4
  have hC4 := hC3.trans (hb4.mono hC3.size)
  refine rest_reads (q := 2) (nl := [(12, (.bool (decide (t.1 = (1 : Int))))), (11, (.bool (decide (t.1 = (1 : Int)))))]) κ κ hfr2 rfl (.s rfl (δ ru_eq rfl rfl rfl)
    (.s rfl (δ ru_assign rfl rfl)
    (.z))) (fun a hfr4 => ?_)
  refine rest_end κ ?_
  refine wp_cond_false ((hfr4.get (t := 11) rfl).trans (by show Value.bool (decide _) = _; rw [decide_eq_false (by omega)])) ?_
  refine wp_seq (region_rest sxMix fun w5 hh5 hb5 => ?_)
  have hP5 := hP4.next hb5
  replace hB := row_next hB hb5
  have hC5 := hC4.trans (hb5.mono hC4.size)
  refine rest_reads (q := 2) (nl := [(42, (.bool (decide (t.1 = (2 : Int))))), (41, (.bool (decide (t.1 = (2 : Int)))))]) κ κ hfr4 rfl (.s rfl (δ ru_eq rfl rfl rfl)
    (.s rfl (δ ru_assign rfl rfl)
    (.z))) (fun a hfr5 => ?_)
  refine rest_end κ ?_
  refine wp_cond_false ((hfr5.get (t := 41) rfl).trans (by show Value.bool (decide _) = _; rw [decide_eq_false (by omega)])) ?_
  refine region_rest sxMix fun w6 hh6 hb6 => ?_
  have hP6 := hP5.next hb6
  replace hB := row_next hB hb6
  have hC6 := hC5.trans (hb6.mono hC5.size)
  refine rest_reads (q := 3) (nl := [(7, ⟪R, k⟫), (8, (.agg (tokC t).toArray)), (9, (.agg (tokC t ++ [Value.slice none 0 0]).toArray))]) κ κ hfr5 rfl (.s rfl (δ ru_move rfl rfl)
    (.s rfl (rd_of rfl rfl fun _ hw => ru_load rfl sxTyK rfl rfl (At.rd (At.all hB) (by simp [tokC]) hw))
    (.s rfl (δ ru_build rfl κ)
    (.z)))) (fun a hfr6 => ?_)
  have hn : Rep (fun q => M q ∨ Foot vo vd os q) w6 nodeT (t, ([] : List NodeD)) (tokC t ++ [.slice none 0 0]) := ⟨_, _, rfl, (rep_tok _ _).2 rfl, RepK.nil _ _⟩
  have hin : PIn M w6 R c eR sR rs vo vd os ds (.mk t []) (tokC t ++ [.slice none 0 0]) := ⟨hP6.b, hP6.m, hP6.r, hn⟩
  refine (rest_call0 κ κ rfl hfr6 κ rfl (enters_of Tryd.func71 κ rfl) rfl (put_ok hin hMR hrs hN hlim) ?_)
  rintro w7 ⟨vo', vd', os', ds', q1, q2, q3, q4, q5⟩
  refine rest_end κ ?_
  simp only [Exit.inBlock]
  exact post_end0 rfl hfr6.1 ⟨rfl, vo', vd', os', ds', q1, q2, q3, (Chg.below hC6).then q4 fun b _ hb => hb, fun b hb hf => q5 b (Nat.lt_of_lt_of_le hb hC6.size) hf⟩
theorem take_close {t : TokD} {p : OpD} (h : TIn M w R c eR sR rs vo vd (os ++ [p]) ds) (hMR : M R) (hrs : seg rs k 2 = [vo, vd]) (ht : t.1 = 2) {N : Nat} (hN : N < 1099511627776) (hlim : BLim N (absO (os ++ [p]), ds)) :
    Calls Tryd.prog 51 #[⟪R, k⟫, .agg (tokC t).toArray] w fun e w' => e = .returned (.tuple #[]) ∧ ∃ vo' vd' os' ds', BOk M 34 w' vo' vd' os' ds' ∧ (absO os', ds') = bputS (absO os, ds) (.mk (endTok p.t t) p.k) ∧
      w'.ownsRow 0 eR sR (.slice ⌜R⌝ 1 c) 1 (splice rs k [vo', vd']) ∧ Chg (fun b => b = R ∨ Foot vo vd (os ++ [p]) b) w w' ∧ ∀ b, b < w.heap.size → Foot vo' vd' os' b → Foot vo vd (os ++ [p]) b := by
  have hol : (os ++ [p]).length = os.length + 1 := by simp
  have ho := h.b.o
  rw [hol] at ho
  obtain ⟨g, co, rfl⟩ := own_form ho (Nat.succ_pos _)
  have hco : os.length + 1 ≤ co := by
    rcases ho.2 with ⟨h0, _⟩ | ⟨_, _, _, h0, _, _, h1, _⟩
    · cases h0
    · cases h0; exact h1
  have hrl : k + 2 ≤ rs.length := seg_two hrs
  have hll := hlim.2.1
  rw [absO_len, hol] at hll
  have hwr : IntKind.i64.wrap (((os.length + 1 : Nat) : Int) - (1 : Int)) = (os.length : Int) := by
    rw [show (((os.length + 1 : Nat) : Int) - (1 : Int)) = (os.length : Int) by omega]
    exact wrap_small (by omega) (by omega)
  have hof : 0 + Int.toNat (IntKind.i64.wrap (((os.length + 1 : Nat) : Int) - (1 : Int))) * 7 = os.length * 7 := by rw [hwr]; simp
  refine calls_of_wp Tryd.func51 rfl ?_
  have hfr : Fr [] 86 [(0, ⟪R, k⟫), (1, .agg (tokC t).toArray)] { tmps := #[⟪R, k⟫, .agg (tokC t).toArray] ++ Array.replicate (86 - 2) undef, defers := [] } := fr_entry (args := #[⟪R, k⟫, .agg (tokC t).toArray]) (by simp) (fun t ht => by
    rcases t with _ | _ | t
    · exact ⟨by simp, rfl⟩
    · exact ⟨by simp, rfl⟩
    · exact absurd ht (by simp [hasK]))
  change Code.wp _ _ _ { tmps := #[⟪R, k⟫, .agg (tokC t).toArray] ++ Array.replicate (86 - 2) undef, defers := [] } _
  generalize ({ tmps := #[⟪R, k⟫, .agg (tokC t).toArray] ++ Array.replicate (86 - 2) undef, defers := [] } : Act) = a at hfr ⊢
  refine wp_seq (region_rest sxMix fun w1 hh1 hb1 => ?_)
  refine rest_new (q := 1) (j0 := 0) (ob := (.cells (tokC t).toArray 32)) (nl := [(3, ⟪w1.heap.size, 0⟫)]) κ κ (by decide) hfr rfl (.s rfl (st_eq ⟨_, ru_box rfl rfl, fun d h1 _ => by cases h1; rfl⟩)
    (.z)) (fun a hfr1 => ?_)
  have hP2 := (h.next hb1).next ((Below.refl _ w1).alloc (Nat.le_refl _) (.cells (tokC t).toArray 32))
  have hB := own_box (w := w1) (e := 32) (cs := tokC t) (n := 6) rfl
  have hC2 : Below w.heap.size w (w1.alloc (.cells (tokC t).toArray 32)) := hb1.trans (((Below.refl _ w1).alloc (Nat.le_refl _) _).mono hb1.size)
  generalize hw2 : w1.alloc (.cells (tokC t).toArray 32) = w2 at *
  refine rest_end κ ?_
  refine wp_seq (region_rest sxMix fun w3 hh3 hb3 => ?_)
  have hP3 := hP2.next hb3
  replace hB := row_next hB hb3
  have hC3 := hC2.trans (hb3.mono hC2.size)
  refine rest_reads (q := 2) (nl := [(5, ⟪w1.heap.size, 0 + 0⟫), (6, (.int .i64 (t.1)))]) κ κ hfr1 rfl (.s rfl (δ ru_field (d := 0) rfl κ rfl)
    (.s rfl (rd_of rfl rfl fun _ hw => ru_load rfl sxTyI rfl rfl (At.rd (At.row (cs := [(.int .i64 (t.1))]) hB rfl rfl) (by simp) hw))
    (.z))) (fun a hfr2 => ?_)
  refine rest_end κ ?_
  refine wp_block (wp_seq (region_rest sxMix fun w4 hh4 hb4 => ?_))
  have hP4 := hP3.next hb4
  replace hB := row_next hB hb4
  have hC4 := hC3.trans (hb4.mono hC3.size)
  refine rest_reads (q := 2) (nl := [(12, (.bool (decide (t.1 = (1 : Int))))), (11, (.bool (decide (t.1 = (1 : Int)))))]) κ κ hfr2 rfl (.s rfl (δ ru_eq rfl rfl rfl)
    (.s rfl (δ ru_assign rfl rfl)
    (.z))) (fun a hfr4 => ?_)
  refine rest_end κ ?_
  refine wp_cond_false ((hfr4.get (t := 11) rfl).trans (by show Value.bool (decide _) = _; rw [decide_eq_false (by omega)])) ?_
  refine wp_seq (region_rest sxMix fun w5 hh5 hb5 => ?_)
  have hP5 := hP4.next hb5
  replace hB := row_next hB hb5
  have hC5 := hC4.trans (hb5.mono hC4.size)
  refine rest_reads (q := 2) (nl := [(42, (.bool (decide (t.1 = (2 : Int))))), (41, (.bool (decide (t.1 = (2 : Int)))))]) κ κ hfr4 rfl (.s rfl (δ ru_eq rfl rfl rfl)
    (.s rfl (δ ru_assign rfl rfl)
    (.z))) (fun a hfr5 => ?_)
  refine rest_end κ ?_
  refine wp_cond_true ((hfr5.get (t := 41) rfl).trans (by show Value.bool (decide _) = _; rw [decide_eq_true ht])) ?_
  refine wp_seq (wp_seq (region_rest sxMix fun w6 hh6 hb6 => ?_))
  have hP6 := hP5.next hb6
  replace hB := row_next hB hb6
  have hC6 := hC5.trans (hb6.mono hC5.size)
  have hatO : At w6 R (k + 0) [.slice ⌜g⌝ (os.length + 1) co] := At.row hP6.r rfl (seg_fst hrs)
  refine rest_reads (q := 6) (nl := [(43, ⟪R, k⟫), (44, ⟪R, k⟫), (45, ⟪R, k + 0⟫), (46, (.slice ⌜g⌝ (os.length + 1) co)), (47, (.int .i64 ((((os.length + 1) : Nat) : Int)))), (48, (.bool (decide ((((os.length + 1) : Nat) : Int) = (0 : Int)))))]) κ κ hfr5 rfl (.s rfl (δ ru_move rfl rfl)
    (.s rfl (δ ru_nil rfl rfl)
    (.s rfl (δ ru_field (d := 0) rfl κ rfl)
    (.s rfl (rd_of rfl rfl fun _ hw => ru_load rfl sxTyL rfl rfl (At.rd hatO (by simp) hw))
    (.s rfl (δ ru_len rfl sxUnd rfl)
    (.s rfl (δ ru_eq rfl rfl rfl)
    (.z))))))) (fun a hfr6 => ?_)
  refine rest_end κ ?_
  refine wp_cond_false ((hfr6.get (t := 48) rfl).trans (by show Value.bool (decide _) = _; rw [decide_eq_false (by omega)])) ?_
  refine wp_skip ?_
  refine wp_seq (region_rest sxMix fun w7 hh7 hb7 => ?_)
  have hP7 := hP6.next hb7
  replace hB := row_next hB hb7
  have hC7 := hC6.trans (hb7.mono hC6.size)
  have hatO : At w7 R (k + 0) [.slice ⌜g⌝ (os.length + 1) co] := At.row hP7.r rfl (seg_fst hrs)
  have ho7 := hP7.b.o
  rw [hol] at ho7
  have hatN : At w7 g (0 + Int.toNat (IntKind.i64.wrap ((((os.length + 1) : Nat) : Int) - (1 : Int))) * 7) (opC p) := At.row ho7 rfl (by rw [hof]; exact last_row)
  refine rest_new (q := 13) (j0 := 12) (ob := (.cells zCells.toArray 34)) (nl := [(53, ⟪R, k⟫), (54, ⟪R, k⟫), (55, ⟪R, k + 0⟫), (56, (.slice ⌜g⌝ (os.length + 1) co)), (57, ⟪R, k⟫), (58, ⟪R, k⟫), (59, ⟪R, k + 0⟫), (60, (.slice ⌜g⌝ (os.length + 1) co)), (61, (.int .i64 ((((os.length + 1) : Nat) : Int)))), (62, (.int .i64 (IntKind.i64.wrap ((((os.length + 1) : Nat) : Int) - (1 : Int))))), (63, ⟪g, 0 + Int.toNat (IntKind.i64.wrap ((((os.length + 1) : Nat) : Int) - (1 : Int))) * 7⟫), (64, (.agg (tokC p.t ++ [p.v]).toArray)), (4, ⟪w7.heap.size, 0⟫)]) κ κ (by decide) hfr6 rfl (.s rfl (st_ne (by decide) (δ ru_move rfl rfl))
    (.s rfl (st_ne (by decide) (δ ru_nil rfl rfl))
    (.s rfl (st_ne (by decide) (δ ru_field (d := 0) rfl κ rfl))
    (.s rfl (st_ne (by decide) (rd_of rfl rfl fun _ hw => ru_load rfl sxTyL rfl rfl (At.rd hatO (by simp) hw)))
    (.s rfl (st_ne (by decide) (δ ru_move rfl rfl))
    (.s rfl (st_ne (by decide) (δ ru_nil rfl rfl))
    (.s rfl (st_ne (by decide) (δ ru_field (d := 0) rfl κ rfl))
    (.s rfl (st_ne (by decide) (rd_of rfl rfl fun _ hw => ru_load rfl sxTyL rfl rfl (At.rd hatO (by simp) hw)))
    (.s rfl (st_ne (by decide) (δ ru_len rfl sxUnd rfl))
    (.s rfl (st_ne (by decide) (δ ru_sub rfl rfl rfl))
    (.s rfl (st_ne (by decide) (δ ru_index (sz := 7) rfl sxUnd sxSz rfl rfl (by rw [hwr]; omega) (by rw [hwr]; omega)))
    (.s rfl (st_ne (by decide) (rd_of rfl rfl fun _ hw => ru_load rfl sxTyN rfl rfl (At.rd hatN (by simp [tokC]) hw)))
    (.s rfl (st_eq ⟨_, ru_alloc rfl sxTyN, fun d h1 _ => by cases h1; rfl⟩)
    (.z)))))))))))))) (fun a hfr7 => ?_)
  have hN8 := own_box (w := w7) (e := 34) (cs := zCells) (n := 7) rfl
  have hb8 : Below w7.heap.size w7 (w7.alloc (.cells zCells.toArray 34)) := (Below.refl _ w7).alloc (Nat.le_refl _) (.cells zCells.toArray 34)
  have hB7 := (hB.lt w1.heap.size rfl).2
  have hsz7 : w7.heap.size < (w7.alloc (.cells zCells.toArray 34)).heap.size := by simp
  have hP8 := hP7.next hb8
  replace hB := row_next hB hb8
  have hC8 := hC7.trans (hb8.mono hC7.size)
  generalize hw8 : w7.alloc (.cells zCells.toArray 34) = w8 at *
  refine rest_store κ κ rfl hfr7 κ rfl (rs_store (vs := tokC p.t ++ [p.v]) rfl κ rfl rfl rfl (tok_one _ _ (hP8.b.one snoc_last)) hN8 (by simp [zCells, tokC])) ?_
  rintro w9 ⟨hN9, hg9⟩
  have hsp9 : splice zCells 0 (tokC p.t ++ [p.v]) = tokC p.t ++ [p.v] := rfl
  rw [hsp9] at hN9
  have hb9 : Below w7.heap.size w8 w9 := ⟨hg9.os, hg9.tape, hg9.output, hg9.size, fun b hb => hg9.block b (Nat.lt_trans hb hsz7) (fun e => by cases e; omega)⟩
  have hb79 : Below w7.heap.size w7 w9 := hb8.trans hb9
  have hP9 := hP7.next hb79
  have hC9 := hC7.trans (hb79.mono hC7.size)
  have hB9 : w9.ownsRow 0 32 6 (.slice ⌜w1.heap.size⌝ 1 1) 1 (tokC t) := ownsRow_same hB fun b hb => hg9.block b (hB.lt b hb).2 (fun e => by have : b = w7.heap.size := Option.some.inj e; have : w1.heap.size = b := Option.some.inj hb; omega)
  refine rest_end κ ?_
  refine wp_seq (region_rest sxMix fun w10 hh10 hb10 => ?_)
  have hP10 := hP9.next hb10
  have hN10 := row_next hN9 hb10
  have hB10 := row_next hB9 hb10
  have hC10 := hC9.trans (hb10.mono hC9.size)
  have hatO : At w10 R (k + 0) [.slice ⌜g⌝ (os.length + 1) co] := At.row hP10.r rfl (seg_fst hrs)
  refine rest_reads (q := 14) (nl := [(65, ⟪R, k⟫), (66, ⟪R, k⟫), (67, ⟪R, k⟫), (68, ⟪R, k + 0⟫), (69, (.slice ⌜g⌝ (os.length + 1) co)), (70, ⟪R, k⟫), (71, ⟪R, k⟫), (72, ⟪R, k + 0⟫), (73, (.slice ⌜g⌝ (os.length + 1) co)), (74, (.int .i64 ((((os.length + 1) : Nat) : Int)))), (75, (.int .i64 (IntKind.i64.wrap ((((os.length + 1) : Nat) : Int) - (1 : Int))))), (76, (.slice ⌜g⌝ (Int.toNat (IntKind.i64.wrap ((((os.length + 1) : Nat) : Int) - (1 : Int)))) co)), (77, ⟪R, k⟫), (78, ⟪R, k + 0⟫)]) κ κ hfr7 rfl (.s rfl (δ ru_move rfl rfl)
    (.s rfl (δ ru_move rfl rfl)
    (.s rfl (δ ru_nil rfl rfl)
    (.s rfl (δ ru_field (d := 0) rfl κ rfl)
    (.s rfl (rd_of rfl rfl fun _ hw => ru_load rfl sxTyL rfl rfl (At.rd hatO (by simp) hw))
    (.s rfl (δ ru_move rfl rfl)
    (.s rfl (δ ru_nil rfl rfl)
    (.s rfl (δ ru_field (d := 0) rfl κ rfl)
    (.s rfl (rd_of rfl rfl fun _ hw => ru_load rfl sxTyL rfl rfl (At.rd hatO (by simp) hw))
    (.s rfl (δ ru_len rfl sxUnd rfl)
    (.s rfl (δ ru_sub rfl rfl rfl)
    (.s rfl (δ ru_cut rfl sxUnd κ rfl rfl (by rw [hwr]; omega) (by rw [hwr]; omega))
    (.s rfl (δ ru_nil rfl rfl)
    (.s rfl (δ ru_field (d := 0) rfl κ rfl)
    (.z))))))))))))))) (fun a hfr8 => ?_)
  refine rest_store κ κ rfl hfr8 κ rfl (rs_store (vs := [.slice ⌜g⌝ (Int.toNat (IntKind.i64.wrap ((((os.length + 1) : Nat) : Int) - (1 : Int)))) co]) rfl κ rfl rfl rfl (by simp [Value.oneCell']) hP10.r (by simp; omega)) ?_
  rintro w11 ⟨hr11, hg11⟩
  rw [hwr] at hr11
  have hcut : Int.toNat (os.length : Int) = os.length := by simp
  rw [hcut] at hr11
  have hRn : ¬ Foot (.slice ⌜g⌝ (os.length + 1) co) vd (os ++ [p]) R := fun e => hP10.b.m R e hMR
  have hA11 : Agree M w10 w11 := ⟨hg11.size, fun b hb hm => hg11.block b hb fun e => hm (by cases e; exact hMR)⟩
  have hBk11 := hP10.b.next hA11 (fun _ _ h => h)
  have hRx : R < w7.heap.size := hP7.m R hMR
  have hN11 : w11.ownsRow 0 34 7 (.slice ⌜w7.heap.size⌝ 1 1) 1 (tokC p.t ++ [p.v]) := hN10.kept hg11 (.inr fun e => by have : w7.heap.size = R := Option.some.inj e; omega)
  have hB11 : w11.ownsRow 0 32 6 (.slice ⌜w1.heap.size⌝ 1 1) 1 (tokC t) := hB10.kept hg11 (.inr fun e => by have : w1.heap.size = R := Option.some.inj e; have := h.m R hMR; have := hb1.size; omega)
  have hC11 : Chg (fun b => b = R) w w11 := (Chg.below hC10).then (Chg.grown' hg11) fun b _ e => (Option.some.inj e).symm
  have hm11 : ∀ q, M q → q < w11.heap.size := fun q hq => Nat.lt_of_lt_of_le (hP10.m q hq) hg11.size
  refine rest_end κ ?_
  refine wp_seq (region_rest sxMix fun w12 hh12 hb12 => ?_)
  have hN12 := row_next hN11 hb12
  replace hB := row_next hB11 hb12
  refine rest_reads (q := 4) (nl := [(79, ⟪w1.heap.size, 0 + 3⟫), (80, (.int .i64 (t.2.2.2.1))), (81, ⟪w7.heap.size, 0 + 0⟫), (82, ⟪w7.heap.size, 0 + 0 + 3⟫)]) κ κ hfr8 rfl (.s rfl (δ ru_field (d := 3) rfl κ rfl)
    (.s rfl (rd_of rfl rfl fun _ hw => ru_load rfl sxTyI rfl rfl (At.rd (At.row (cs := [(.int .i64 (t.2.2.2.1))]) hB rfl rfl) (by simp) hw))
    (.s rfl (δ ru_field (d := 0) rfl κ rfl)
    (.s rfl (δ ru_field (d := 3) rfl κ rfl)
    (.z))))) (fun a hfr9 => ?_)
  refine rest_store κ κ rfl hfr9 κ rfl (rs_store (vs := [.int .i64 t.2.2.2.1]) rfl κ rfl rfl rfl (by simp [Value.oneCell']) hN12 (show 0 + 0 + 3 + 1 ≤ 7 by decide)) ?_
  rintro w13 ⟨hN13, hg13⟩
  have hsp13 : splice (tokC p.t ++ [p.v]) (0 + 0 + 3) [.int .i64 t.2.2.2.1] = tokC (endTok p.t t) ++ [p.v] := rfl
  rw [hsp13] at hN13
  have hb13 : Below w7.heap.size w11 w13 := (hb12.mono (by have := hb79.size; have := hb10.size; have := hg11.size; omega)).trans ⟨hg13.os, hg13.tape, hg13.output, hg13.size, fun b hb => hg13.block b (by have := hb79.size; have := hb10.size; have := hg11.size; have := hb12.size; omega) (fun e => by have : b = w7.heap.size := Option.some.inj e; omega)⟩
  have hlt7 : ∀ b, Foot (.slice ⌜g⌝ (os.length + 1) co) vd (os ++ [p]) b → b < w7.heap.size := fun b hb => hP7.b.lt hb
  refine rest_end κ ?_
  refine region_rest sxMix fun w14 hh14 hb14 => ?_
  have hN14 := row_next hN13 hb14
  have hatM : At w14 w7.heap.size 0 (tokC (endTok p.t t) ++ [p.v]) := At.all hN14
  refine rest_reads (q := 2) (nl := [(83, ⟪R, k⟫), (84, (.agg (tokC (endTok p.t t) ++ [p.v]).toArray))]) κ κ hfr9 rfl (.s rfl (δ ru_move rfl rfl)
    (.s rfl (rd_of rfl rfl fun _ hw => ru_load rfl sxTyN rfl rfl (At.rd hatM (by simp [tokC]) hw))
    (.z))) (fun a hfr10 => ?_)
  have hrs11 : seg (splice rs (k + 0) [.slice ⌜g⌝ os.length co]) k 2 = [.slice ⌜g⌝ os.length co, vd] := by
    rw [(splice_two hrs _ vd).2.2.2]
    exact seg_splice (by simp; omega)
  have hfo : ∀ b, Foot (.slice ⌜g⌝ os.length co) vd os b → Foot (.slice ⌜g⌝ (os.length + 1) co) vd (os ++ [p]) b := by
    rintro b (e | e | ⟨i, o, hi, e⟩)
    · exact .inl e
    · exact .inr (.inl e)
    · exact .inr (.inr ⟨i, o, snoc_left hi, e⟩)
  have hb14' : Below w7.heap.size w11 w14 := hb13.trans (hb14.mono (by have := hb79.size; have := hb10.size; have := hg11.size; have := hb13.size; omega))
  have hA14 : Agree M w7 w14 := ⟨by have := hb79.size; have := hb10.size; have := hg11.size; have := hb14'.size; omega, fun b hb hm => (hb14'.block b hb).trans ((hg11.block b (by have := hb79.size; have := hb10.size; omega) (fun e => hm (by cases e; exact hMR))).trans ((hb10.block b (by have := hb79.size; omega)).trans (hb79.block b hb)))⟩
  obtain ⟨hpop, hnode⟩ := (hP7.b.next hA14 (fun _ _ h => h)).pop (endTok p.t t)
  have hm14 : ∀ q, M q → q < w14.heap.size := fun q hq => Nat.lt_of_lt_of_le (hm11 q hq) hb14'.size
  have hr14 : w14.ownsRow 0 eR sR (.slice ⌜R⌝ 1 c) 1 (splice rs (k + 0) [.slice ⌜g⌝ os.length co]) := ownsRow_same hr11 fun b hb => hb14'.block b (by have : R = b := Option.some.inj hb; omega)
  have hin : PIn M w14 R c eR sR (splice rs (k + 0) [.slice ⌜g⌝ os.length co]) (.slice ⌜g⌝ os.length co) vd os ds (.mk (endTok p.t t) p.k) (tokC (endTok p.t t) ++ [p.v]) := ⟨hpop, hm14, hr14, hnode⟩
  have hlim' : BLim N (absO os, ds) := ⟨hlim.1, by rw [absO_len]; omega, fun x hx => hlim.2.2 x (by rw [absO_snoc]; exact List.mem_cons_of_mem _ hx)⟩
  refine (rest_call0 κ κ rfl hfr10 κ rfl (enters_of Tryd.func71 κ rfl) rfl (put_ok hin hMR hrs11 hN hlim') ?_)
  rintro w15 ⟨vo', vd', os', ds', q1, q2, q3, q4, q5⟩
  refine rest_end κ ?_
  simp only [Exit.inBlock]
  rw [(splice_two hrs _ vd).2.2.2, splice_again (cs := [.slice ⌜g⌝ os.length co, vd]) (vs := [vo', vd']) (by simp; omega) rfl] at q3
  have hCx : Chg (fun q => w7.heap.size ≤ q) w11 w14 := ⟨hb14'.os, hb14'.tape, hb14'.output, hb14'.size, fun b hb => hb14'.block b (by
    rcases Nat.lt_or_ge b w7.heap.size with h' | h'
    · exact h'
    · exact absurd (.inl h') hb)⟩
  refine post_end0 rfl hfr10.1 ⟨rfl, vo', vd', os', ds', q1, q2, q3, ((hC11.mono (S' := fun b => b = R ∨ Foot (.slice ⌜g⌝ (os.length + 1) co) vd (os ++ [p]) b) fun b hb => .inl hb).then hCx fun b hb e => ?_).then q4 fun b _ e => e.imp id (hfo b), fun b hb hf => hfo b (q5 b (by have := hC7.size; have := hA14.size; omega) hf)⟩
  have := hC7.size
  omega
end Go.Proofs.YtnjpocbcfkfphaaDoor


/- sexpr's builder takes tokens, one after another; what goes wrong is caught. -/
namespace Go.Proofs.YtnjpocbcfkfphaaDoor
open Go.RowKit Go.FK Go.Shelf
variable {M : Nat → Prop} {w w1 : World} {R c eR sR k : Nat} {rs : List Value} {vo vd : Value} {os : List OpD} {ds : List NodeD}
theorem take_ok {t : TokD} (h : TIn M w R c eR sR rs vo vd os ds) (hMR : M R) (hrs : seg rs k 2 = [vo, vd]) {N : Nat} (hN : N < 1099511627776) (hlim : BLim N (absO os, ds)) :
    Calls Tryd.prog 51 #[⟪R, k⟫, .agg (tokC t).toArray] w fun e w' => match btakeS (absO os, ds) t with
      | .inl s' => e = .returned (.tuple #[]) ∧ ∃ vo' vd' os', BOk M 34 w' vo' vd' os' s'.2 ∧ absO os' = s'.1 ∧ w'.ownsRow 0 eR sR (.slice ⌜R⌝ 1 c) 1 (splice rs k [vo', vd']) ∧ Chg (fun b => b = R ∨ Foot vo vd os b) w w' ∧ ∀ b, b < w.heap.size → Foot vo' vd' os' b → Foot vo vd os b
      | .inr x => e = .panicked [{ v := .iface 61 (.agg #[.int .i64 x.1, .int .i64 x.2]), recovered := false }] ∧ Below w.heap.size w w' := by
  by_cases h1 : t.1 = 1
  · by_cases hl : os.length = 1000
    · refine Calls.mono (take_full h hrs h1 hl) fun e w' q => ?_
      simp only [btakeS, h1, absO_len, hl, if_true]
      exact q
    · have hl' := hlim.2.1
      rw [absO_len] at hl'
      refine Calls.mono (take_open h hMR hrs h1 (by omega)) fun e w' q => ?_
      obtain ⟨q1, vo', q2, q3, q4, q5⟩ := q
      simp only [btakeS, h1, absO_len, hl, if_true, if_false]
      rw [(splice_two hrs vo' vd).2.2.2] at q3
      exact ⟨q1, vo', vd, _, q2, by rw [absO_snoc], q3, q4, q5⟩
  · by_cases h2 : t.1 = 2
    · rcases List.eq_nil_or_concat os with rfl | ⟨os, p, rfl⟩
      · refine Calls.mono (take_paren h hrs h2) fun e w' q => ?_
        simp only [btakeS, h2, absO_nil, if_true]
        exact q
      · rw [List.concat_eq_append] at h hlim ⊢
        refine Calls.mono (take_close h hMR hrs h2 hN hlim) fun e w' q => ?_
        obtain ⟨q1, vo', vd', os', ds', q2, q3, q4, q5, q6⟩ := q
        simp only [btakeS, h2, absO_snoc, if_true]
        rw [← q3]
        exact ⟨q1, vo', vd', os', q2, rfl, q4, q5, q6⟩
    · refine Calls.mono (take_tok h hMR hrs h1 h2 hN hlim) fun e w' q => ?_
      obtain ⟨q1, vo', vd', os', ds', q2, q3, q4, q5, q6⟩ := q
      simp only [btakeS, h1, h2, if_false]
      rw [← q3]
      exact ⟨q1, vo', vd', os', q2, rfl, q4, q5, q6⟩
theorem sxTyW : TyOk Tryd.prog 61 ⟨.st (.pair (.int .i64) (.int .i64)), 0, 0⟩ := tyB_ok κ
theorem sxIface : ∃ ms, Tryd.prog.underlying 20 = some (.interface ms) := ifcB_ok κ
theorem catch_idle (p : Addr) (w : World) :
    CallsD Tryd.prog 50 #[.pointer (some p)] .returning w fun e u' w' => e = .returned (.tuple #[]) ∧ u' = .returning ∧ Below w.heap.size w w' := by
  refine callsD_of_wpS Tryd.func50 rfl fun c₀ cs hu => ?_
  apply wpS_seq
  apply wpS_region
  simp [wpOpsS, go_sem, recoverD, hu, Exit.thenS]
  refine wpS_of_wp ?_
  have hfr : Fr [] 11 [(0, .pointer (some p)), (4, .nilIface)] { tmps := #[Value.pointer (some p)] ++ (Array.replicate 10 undef).setIfInBounds 3 Value.nilIface, defers := [] } := ⟨rfl, by simp, fun t ht => by
    rcases t with _ | _ | _ | _ | _ | t <;> first | rfl | exact absurd ht (by simp [hasK])⟩
  generalize ({ tmps := #[Value.pointer (some p)] ++ (Array.replicate 10 undef).setIfInBounds 3 Value.nilIface, defers := [] } : Act) = a at hfr ⊢
  refine wp_block (wp_seq (region_rest sxMix fun w1 _ hb1 => ?_))
  obtain ⟨ms, hi⟩ := sxIface
  refine rest_reads (q := 1) (nl := [(6, .bool true)]) κ κ hfr rfl (.s rfl (rd_of rfl rfl fun w2 _ => ru_bin rfl rfl rfl (run_nilI_eql hi (.tmp 4) w2)) .z) (fun a hfr1 => ?_)
  refine rest_end κ ?_
  refine wp_cond_true (hfr1.get (t := 6) rfl) ?_
  refine region_rest sxMix fun w2 _ hb2 => ?_
  refine rest_reads (q := 1) (nl := [(1, .nilIface)]) κ κ hfr1 rfl (.s rfl (δ ru_assign rfl rfl) .z) (fun a hfr2 => ?_)
  refine rest_end κ ?_
  simp only [Exit.inBlock]
  refine ⟨hfr2.1, .returning, by cases c₀; simp_all, .tuple #[], results_tuple (us := []) (fun f _ _ => rfl), rfl, rfl, hb1.trans (hb2.mono hb1.size)⟩
theorem catch_wrong {B cw : Nat} {xs : List Value} (x1 x2 : Int) (older : List PanicEntry) (w : World) (hr : w.ownsRow 0 61 2 (.slice ⌜B⌝ 1 cw) 1 xs) :
    CallsD Tryd.prog 50 #[⟪B, 0⟫] (.panicking ({ v := .iface 61 (.agg #[.int .i64 x1, .int .i64 x2]), recovered := false } :: older)) w fun e u' w' =>
      e = .returned (.tuple #[]) ∧ u' = .panicking ({ v := .iface 61 (.agg #[.int .i64 x1, .int .i64 x2]), recovered := true } :: older) ∧ w'.ownsRow 0 61 2 (.slice ⌜B⌝ 1 cw) 1 [.int .i64 x1, .int .i64 x2] ∧ Chg (fun b => b = B) w w' := by
  refine callsD_of_wpS Tryd.func50 rfl fun c₀ cs hu => ?_
  apply wpS_seq
  apply wpS_region
  simp [wpOpsS, go_sem, recoverD, hu, Exit.thenS]
  refine wpS_of_wp ?_
  have hfr : Fr [] 11 [(0, ⟪B, 0⟫), (4, .iface 61 (.agg #[.int .i64 x1, .int .i64 x2]))] { tmps := #[⟪B, 0⟫] ++ (Array.replicate 10 undef).setIfInBounds 3 (.iface 61 (.agg #[.int .i64 x1, .int .i64 x2])), defers := [] } := ⟨rfl, by simp, fun t ht => by
    rcases t with _ | _ | _ | _ | _ | t <;> first | rfl | exact absurd ht (by simp [hasK])⟩
  generalize ({ tmps := #[⟪B, 0⟫] ++ (Array.replicate 10 undef).setIfInBounds 3 (.iface 61 (.agg #[.int .i64 x1, .int .i64 x2])), defers := [] } : Act) = a at hfr ⊢
  refine wp_block (wp_seq (region_rest sxMix fun w1 _ hb1 => ?_))
  refine rest_reads (q := 1) (nl := [(6, .bool false)]) κ κ hfr rfl (.s rfl (rd_of rfl rfl fun w2 _ => ru_bin rfl rfl rfl (run_iface_nil sxIface _ _ _ _ w2)) .z) (fun a hfr1 => ?_)
  refine rest_end κ ?_
  refine wp_cond_false (hfr1.get (t := 6) rfl) ?_
  refine wp_seq (region_rest sxMix fun w2 _ hb2 => ?_)
  refine rest_reads (q := 3) (nl := [(7, .tuple #[.agg #[.int .i64 x1, .int .i64 x2], .bool true]), (8, .bool true), (9, .agg #[.int .i64 x1, .int .i64 x2])]) κ κ hfr1 rfl (.s rfl (δ ru_assert rfl sxWr rfl) (.s rfl (δ ru_extract rfl rfl rfl) (.s rfl (δ ru_extract rfl rfl rfl) .z))) (fun a hfr2 => ?_)
  refine rest_end κ ?_
  refine wp_cond_true (hfr2.get (t := 8) rfl) ?_
  refine wp_seq (region_rest sxMix fun w3 _ hb3 => ?_)
  have hr3 := row_next (row_next (row_next hr hb1) hb2) hb3
  have hC3 : Below w.heap.size w w3 := (hb1.trans (hb2.mono hb1.size)).trans (hb3.mono (Nat.le_trans hb1.size hb2.size))
  refine rest_new (q := 1) (j0 := 0) (ob := (.cells #[.int .i64 0, .int .i64 0] 61)) (nl := [(2, ⟪w3.heap.size, 0⟫)]) κ κ (by decide) hfr2 rfl (.s rfl (st_eq ⟨_, ru_alloc rfl sxTyW, fun d h1 _ => by cases h1; rfl⟩) .z) (fun a hfr3 => ?_)
  have hN := own_box (w := w3) (e := 61) (cs := [.int .i64 0, .int .i64 0]) (n := 2) rfl
  have hr4 := hr3.alloc (.cells #[.int .i64 0, .int .i64 0] 61)
  have hC4 : Below w.heap.size w (w3.alloc (.cells #[.int .i64 0, .int .i64 0] 61)) := hC3.trans (((Below.refl _ w3).alloc (Nat.le_refl _) _).mono hC3.size)
  have hlt : B < w3.heap.size := (hr3.lt B rfl).2
  generalize hw4 : w3.alloc (.cells #[.int .i64 0, .int .i64 0] 61) = w4 at *
  refine rest_store κ κ rfl hfr3 κ rfl (rs_store (vs := [.int .i64 x1, .int .i64 x2]) rfl κ rfl rfl rfl (by simp [Value.oneCell']) hN (by simp)) ?_
  rintro w5 ⟨hN5, hg5⟩
  have hr5 := hr4.kept hg5 (.inr fun e => by have : B = w3.heap.size := Option.some.inj e; omega)
  have hC5 : Chg (fun b => b = B) w w5 := (Chg.below hC4).then (Chg.grown' hg5) fun b hb e => by
    have : w3.heap.size = b := Option.some.inj e
    have := hC3.size
    omega
  refine rest_end κ ?_
  refine region_rest sxMix fun w6 _ hb6 => ?_
  have hN6 := row_next hN5 hb6
  have hr6 := row_next hr5 hb6
  refine rest_reads (q := 1) (nl := [(10, .agg #[.int .i64 x1, .int .i64 x2])]) κ κ hfr3 rfl (.s rfl (rd_of rfl rfl fun _ hw => ru_load rfl sxTyW rfl rfl (At.rd (cs := [.int .i64 x1, .int .i64 x2]) (At.all hN6) (by simp) hw)) .z) (fun a hfr4 => ?_)
  refine rest_store κ κ rfl hfr4 κ rfl (rs_store (vs := [.int .i64 x1, .int .i64 x2]) rfl κ rfl rfl rfl (by simp [Value.oneCell']) hr6 (by have := hr6.1; simp; omega)) ?_
  rintro w7 ⟨hr7, hg7⟩
  refine rest_end κ ?_
  simp only [Exit.inBlock]
  have hl : xs.length = 2 := by have := hr.1; simpa using this
  rw [splice_whole _ _ (by rw [hl]; rfl)] at hr7
  refine ⟨hfr4.1, _, rfl, .tuple #[], results_tuple (us := []) (fun f _ _ => rfl), rfl, rfl, hr7, (hC5.then (Chg.below (S := fun b => b = B) hb6) fun b _ e => e).then (Chg.grown' hg7) fun b _ e => (Option.some.inj e).symm⟩
theorem all_results {a : Act} {w : World} {B cw : Nat} {x1 x2 : Int} (h4 : a.tmps.getD 4 undef = ⟪B, 0⟫) (hr : w.ownsRow 0 61 2 (.slice ⌜B⌝ 1 cw) 1 [.int .i64 x1, .int .i64 x2]) :
    (results Tryd.f36 a.tmps).run Tryd.prog w = .ok (.agg #[.int .i64 x1, .int .i64 x2]) w := by
  refine results_tuple (us := [.agg #[.int .i64 x1, .int .i64 x2]]) (fun f hf hc => ?_)
  have hl := run_loadVar_len (P := Tryd.prog) (w := w) sxTyW (cs := [.int .i64 x1, .int .i64 x2]) rfl ⟨B, 0, none⟩ (fun j v hj => hr.cells (g := B) rfl j v hj)
  have hl' : (loadVar 61 ⟨B, 0, none⟩).run Tryd.prog w = .ok (.agg #[.int .i64 x1, .int .i64 x2]) w := hl
  rw [show Tryd.f36.results.toList = [.cell 4 61] from rfl]
  simp [List.mapM_cons, hc, h4, asAddr, hl']
theorem all_ok {tl : List TokD} {A : Option Addr} {ca N : Nat} (h : TIn M w R c eR sR rs vo vd os ds) (hMR : M R) (hrs : seg rs k 2 = [vo, vd])
    (hA : 0 < tl.length → ∃ a, A = some a ∧ a.block < w.heap.size ∧ ¬ (M a.block ∨ Foot vo vd os a.block) ∧ ∀ i t, tl[i]? = some t → AtA w (a.add (i * 6)) (tokC t))
    (hN : N + tl.length < 1099511627776) (hlim : BLim N (absO os, ds)) :
    Calls Tryd.prog 36 #[⟪R, k⟫, .slice A tl.length ca] w fun e w' => e = .returned (.agg #[.int .i64 (ballS (absO os, ds) tl).2.1, .int .i64 (ballS (absO os, ds) tl).2.2]) ∧
      ∃ vo' vd' os', BOk M 34 w' vo' vd' os' (ballS (absO os, ds) tl).1.2 ∧ absO os' = (ballS (absO os, ds) tl).1.1 ∧ w'.ownsRow 0 eR sR (.slice ⌜R⌝ 1 c) 1 (splice rs k [vo', vd']) ∧
        Chg (fun b => b = R ∨ Foot vo vd os b) w w' ∧ ∀ b, b < w.heap.size → Foot vo' vd' os' b → Foot vo vd os b := by
  have hrl : k + 2 ≤ rs.length := seg_two hrs
  refine calls_of_wp_defers Tryd.func36 rfl ?_
  have hfr : Fr [] 19 [(0, ⟪R, k⟫), (1, .slice A tl.length ca)] { tmps := #[⟪R, k⟫, .slice A tl.length ca] ++ Array.replicate (19 - 2) undef, defers := [] } := fr_entry (args := #[⟪R, k⟫, .slice A tl.length ca]) (by simp) (fun t ht => by
    rcases t with _ | _ | t
    · exact ⟨by simp, rfl⟩
    · exact ⟨by simp, rfl⟩
    · exact absurd ht (by simp [hasK]))
  change Code.wp _ _ _ { tmps := #[⟪R, k⟫, .slice A tl.length ca] ++ Array.replicate (19 - 2) undef, defers := [] } _
  generalize ({ tmps := #[⟪R, k⟫, .slice A tl.length ca] ++ Array.replicate (19 - 2) undef, defers := [] } : Act) = a at hfr ⊢
  refine wp_seq (region_rest sxMix fun w1 hh1 hb1 => ?_)
  have hP1 := h.next hb1
  refine rest_new (q := 1) (j0 := 0) (ob := (.cells #[.int .i64 0, .int .i64 0] 61)) (nl := [(4, ⟪w1.heap.size, 0⟫)]) κ κ (by decide) hfr rfl (.s rfl (st_eq ⟨_, ru_alloc rfl sxTyW, fun d h1 _ => by cases h1; rfl⟩)
    (.z)) (fun a hfr1 => ?_)
  have hb2 : Below w1.heap.size w1 (w1.alloc (.cells #[.int .i64 0, .int .i64 0] 61)) := (Below.refl _ w1).alloc (Nat.le_refl _) _
  have hW2 := own_box (w := w1) (e := 61) (cs := [.int .i64 0, .int .i64 0]) (n := 2) rfl
  have hP2 : TIn (fun q => M q ∨ q = w1.heap.size) (w1.alloc (.cells #[.int .i64 0, .int .i64 0] 61)) R c eR sR rs vo vd os ds :=
    ⟨hP1.b.next (Agree.of_below hb2) (fun b hb hm => hm.elim id fun e => by omega), fun q hq => by
      have e : (w1.alloc (.cells #[.int .i64 0, .int .i64 0] 61)).heap.size = w1.heap.size + 1 := by simp
      rcases hq with hq | rfl
      · have := hP1.m q hq; omega
      · omega, row_next hP1.r hb2⟩
  have hC2 : Below w.heap.size w (w1.alloc (.cells #[.int .i64 0, .int .i64 0] 61)) := hb1.trans (hb2.mono hb1.size)
  have hA2 : 0 < tl.length → ∃ a, A = some a ∧ a.block < w.heap.size ∧ ¬ (M a.block ∨ Foot vo vd os a.block) ∧ ∀ i t, tl[i]? = some t → AtA (w1.alloc (.cells #[.int .i64 0, .int .i64 0] 61)) (a.add (i * 6)) (tokC t) := fun h0 => by
    obtain ⟨a, q1, q2, q3, q4⟩ := hA h0
    exact ⟨a, q1, q2, q3, fun i t hi => (q4 i t hi).of_heap (by rw [block_add]; exact hC2.block _ q2)⟩
  have hlW : w.heap.size ≤ w1.heap.size := hb1.size
  generalize hw2 : w1.alloc (.cells #[.int .i64 0, .int .i64 0] 61) = w2 at *
  refine rest_end κ ?_
  refine wp_seq (wp_region_list ?_)
  refine list_val rfl (by intro _ _ e; cases e) hfr1 κ rfl (ru_func rfl) (fun a hfr2 => ?_)
  refine list_defer rfl (by intro _ _ e; cases e) hfr2 κ rfl rfl rfl (fun a hfr3 => ?_)
  refine wp_seq (wp_seq (region_rest sxMix fun w3 hh3 hb3 => ?_))
  refine rest_reads (q := 3) (nl := [(8, (.slice A tl.length ca)), (9, (.int .i64 (((tl.length : Nat) : Int)))), (10, (.int .i64 (0 : Int)))]) κ κ hfr3 rfl (.s rfl (δ ru_move rfl rfl)
    (.s rfl (δ ru_len rfl sxUndT rfl)
    (.s rfl (δ ru_move rfl rfl)
    (.z)))) (fun a hfr4 => ?_)
  refine rest_end κ ?_
  have hfrL := hfr4.pick [(0, ⟪R, k⟫), (4, ⟪w1.heap.size, 0⟫), (8, .slice A tl.length ca), (9, .int .i64 ((tl.length : Nat) : Int)), (10, .int .i64 ((0 : Nat) : Int))] ⟨⟨rfl, rfl⟩, ⟨rfl, rfl⟩, ⟨rfl, rfl⟩, ⟨rfl, rfl⟩, ⟨rfl, rfl⟩, trivial⟩
  have hP3 := hP2.next hb3
  have hW3 := row_next hW2 hb3
  have hC3 : Below w.heap.size w w3 := hC2.trans (hb3.mono hC2.size)
  have hA3 : 0 < tl.length → ∃ a, A = some a ∧ a.block < w.heap.size ∧ ¬ (M a.block ∨ Foot vo vd os a.block) ∧ ∀ i t, tl[i]? = some t → AtA w3 (a.add (i * 6)) (tokC t) := fun h0 => by
    obtain ⟨a, q1, q2, q3, q4⟩ := hA2 h0
    exact ⟨a, q1, q2, q3, fun i t hi => (q4 i t hi).of_heap (by rw [block_add]; exact hb3.block _ (Nat.lt_of_lt_of_le q2 hC2.size))⟩
  refine wp_block (wp_loop_n (fun m a v => ∃ i vo1 vd1 os1 ds1, m = tl.length - i ∧ i ≤ tl.length ∧ Fr [{ target := .fn (.func 50) #[⟪w1.heap.size, 0⟫], args := #[] }] 19 [(0, ⟪R, k⟫), (4, ⟪w1.heap.size, 0⟫), (8, .slice A tl.length ca), (9, .int .i64 ((tl.length : Nat) : Int)), (10, .int .i64 ((i : Nat) : Int))] a ∧ TIn (fun q => M q ∨ q = w1.heap.size) v R c eR sR (splice rs k [vo1, vd1]) vo1 vd1 os1 ds1 ∧
      ballS (absO os1, ds1) (tl.drop i) = ballS (absO os, ds) tl ∧ BLim (N + i) (absO os1, ds1) ∧ (0 < tl.length → ∃ a, A = some a ∧ a.block < w.heap.size ∧ ¬ (M a.block ∨ Foot vo vd os a.block) ∧ ∀ i t, tl[i]? = some t → AtA v (a.add (i * 6)) (tokC t)) ∧
      v.ownsRow 0 61 2 (.slice ⌜w1.heap.size⌝ 1 1) 1 [.int .i64 0, .int .i64 0] ∧ Chg (fun b => b = R ∨ Foot vo vd os b) w v ∧ ∀ b, b < w.heap.size → Foot vo1 vd1 os1 b → Foot vo vd os b) tl.length ⟨0, vo, vd, os, ds, by omega, Nat.zero_le _, hfrL, by rw [(splice_two hrs vo vd).2.1]; exact hP3, rfl, hlim, hA3, hW3, Chg.below hC3, fun _ _ h => h⟩ ?_)
  clear hfrL hfr4 hfr3 hfr2 hfr1 hfr hP3 hP2 hP1 hW3 hW2 hA3 hA2 hC3 hC2 hw2 hb3 hh3
  rintro m a v ⟨i, vo1, vd1, os1, ds1, rfl, hi, hfr1, hP, hball, hlim1, hA1, hW, hC, hF⟩
  refine wp_seq (region_rest sxMix fun v1 _ hb1 => ?_)
  refine rest_reads (q := 1) (nl := [(11, (.bool (decide (((i : Nat) : Int) < ((tl.length : Nat) : Int)))))]) κ κ hfr1 rfl (.s rfl (δ ru_lt rfl rfl rfl)
    (.z)) (fun a hfr2 => ?_)
  refine rest_end κ ?_
  have hP1 := hP.next hb1
  have hW1 := row_next hW hb1
  have hC1 : Chg (fun b => b = R ∨ Foot vo vd os b) w v1 := hC.then (Chg.below (S := fun _ => False) hb1) fun b _ e => e.elim
  by_cases hlt : i < tl.length
  · -- a round
    obtain ⟨t0, ht0⟩ : ∃ t0, tl[i]? = some t0 := ⟨tl[i], List.getElem?_eq_getElem hlt⟩
    have hdr : tl.drop i = t0 :: tl.drop (i + 1) := by
      obtain ⟨h1, h2⟩ := List.getElem?_eq_some_iff.1 ht0
      rw [List.drop_eq_getElem_cons h1, h2]
    obtain ⟨a0, rfl, ha1, ha2, ha3⟩ := hA1 (by omega)
    refine wp_seq (wp_cond_true ((hfr2.get (t := 11) rfl).trans (by show Value.bool (decide _) = _; rw [decide_eq_true (by omega)])) (wp_skip ?_))
    refine wp_seq (wp_block (wp_seq (region_rest sxMix fun v2 _ hb2 => ?_)))
    have hP2 := hP1.next hb2
    have hW2 := row_next hW1 hb2
    have hC2 : Chg (fun b => b = R ∨ Foot vo vd os b) w v2 := hC1.then (Chg.below (S := fun _ => False) hb2) fun b _ e => e.elim
    have hat : AtA v2 (a0.add (Int.toNat ((i : Nat) : Int) * 6)) (tokC t0) := by
      have h1 := ha3 i t0 ht0
      have h2 : v2.heap[a0.block]? = v.heap[a0.block]? := (hb2.block _ (Nat.lt_of_lt_of_le ha1 (Beyond.size hC1))).trans (hb1.block _ (Nat.lt_of_lt_of_le ha1 (Beyond.size hC)))
      rw [show Int.toNat ((i : Nat) : Int) = i by simp]
      exact h1.of_heap (by rw [block_add]; exact h2)
    have hsz2 : w.heap.size ≤ v2.heap.size := Beyond.size hC2
    refine rest_new (q := 3) (j0 := 2) (ob := (.cells #[.int .i64 0, .string ⟨#[]⟩, .int .i64 0, .int .i64 0, .int .i64 0, .int .i64 0] 32)) (nl := [(12, .pointer (some (a0.add (Int.toNat ((i : Nat) : Int) * 6)))), (13, .agg (tokC t0).toArray), (6, ⟪v2.heap.size, 0⟫)]) κ κ (by decide) hfr2 rfl
      (.s rfl (st_ne (by decide) (δ ru_indexA (sz := 6) rfl sxUndT sxSzT rfl rfl (Int.natCast_nonneg _) (by omega)))
      (.s rfl (st_ne (by decide) (rd_of rfl rfl fun _ hw => ru_loadA rfl sxTyK rfl rfl (hat.of_heap (hw _ (by rw [block_add]; exact Nat.lt_of_lt_of_le ha1 hsz2)))))
      (.s rfl (st_eq ⟨_, ru_alloc rfl sxTyK, fun d h1 _ => by cases h1; rfl⟩) .z))) (fun a hfr3 => ?_)
    have hN3 := own_box (w := v2) (e := 32) (cs := [.int .i64 0, .string ⟨#[]⟩, .int .i64 0, .int .i64 0, .int .i64 0, .int .i64 0]) (n := 6) rfl
    have hb3 : Below v2.heap.size v2 (v2.alloc (.cells #[.int .i64 0, .string ⟨#[]⟩, .int .i64 0, .int .i64 0, .int .i64 0, .int .i64 0] 32)) := (Below.refl _ v2).alloc (Nat.le_refl _) _
    generalize hv3 : v2.alloc (.cells #[.int .i64 0, .string ⟨#[]⟩, .int .i64 0, .int .i64 0, .int .i64 0, .int .i64 0] 32) = v3 at *
    refine rest_store κ κ rfl hfr3 κ rfl (rs_store (vs := tokC t0) rfl κ rfl rfl rfl (tokC_one t0) hN3 (by simp [tokC])) ?_
    rintro v4 ⟨hN4, hg4⟩
    have hsp4 : splice [.int .i64 0, .string ⟨#[]⟩, .int .i64 0, .int .i64 0, .int .i64 0, .int .i64 0] 0 (tokC t0) = tokC t0 := rfl
    rw [hsp4] at hN4
    have hb4 : Below v2.heap.size v2 v4 := hb3.trans ⟨hg4.os, hg4.tape, hg4.output, hg4.size, fun b hb => hg4.block b (Nat.lt_of_lt_of_le hb hb3.size) (fun e => by have : b = v2.heap.size := Option.some.inj e; omega)⟩
    refine rest_end κ ?_
    refine region_rest sxMix fun v5 _ hb5 => ?_
    have hb25 : Below v2.heap.size v2 v5 := hb4.trans (hb5.mono hb4.size)
    have hP5 := hP2.next hb25
    have hW5 := row_next hW2 hb25
    have hC5 : Chg (fun b => b = R ∨ Foot vo vd os b) w v5 := hC2.then (Chg.below (S := fun _ => False) hb25) fun b _ e => e.elim
    have hN5 := row_next hN4 hb5
    refine rest_reads (q := 2) (nl := [(14, ⟪R, k⟫), (15, .agg (tokC t0).toArray)]) κ κ hfr3 rfl (.s rfl (δ ru_move rfl rfl)
      (.s rfl (rd_of rfl rfl fun _ hw => ru_load rfl sxTyK rfl rfl (At.rd (At.all hN5) (by simp [tokC]) hw)) .z)) (fun a hfr4 => ?_)
    have hrs1 : seg (splice rs k [vo1, vd1]) k 2 = [vo1, vd1] := seg_splice (by simp; omega)
    have hRM : R < w.heap.size := h.m R hMR
    have hWR : w1.heap.size ≠ R := by omega
    have hWF : ∀ b, b = R ∨ Foot vo1 vd1 os1 b → b ≠ w1.heap.size := by
      rintro b (rfl | hb) e
      · exact hWR e.symm
      · exact hP5.b.m b hb (.inr e)
    have hcall := take_ok (t := t0) hP5 (.inl hMR) hrs1 (N := N + i) (by omega) hlim1
    cases hbt : btakeS (absO os1, ds1) t0 with
    | inl s' =>
      simp only [hbt] at hcall
      refine rest_call0 κ κ rfl hfr4 κ rfl (enters_of Tryd.func51 κ rfl) rfl hcall ?_
      rintro v6 ⟨vo2, vd2, os2, q1, q2, q3, q4, q5⟩
      have hfr5 := hfr4.put (d := 16) (by decide) (.tuple #[])
      refine rest_end κ ?_
      simp only [Exit.then, Exit.inBlock]
      refine region_rest sxMix fun v7 _ hb7 => ?_
      refine rest_reads (q := 1) (nl := [(17, .int .i64 (IntKind.i64.wrap (((i : Nat) : Int) + (1 : Int))))]) κ κ hfr5 rfl (.s rfl (δ ru_add rfl rfl rfl) .z) (fun a hfr6 => ?_)
      refine rest_reads (q := 2) (nl := [(10, .int .i64 (IntKind.i64.wrap (((i : Nat) : Int) + (1 : Int))))]) κ κ hfr6 rfl (.s rfl (δ ru_move rfl rfl) .z) (fun a hfr7 => ?_)
      refine rest_end κ ?_
      have hw : IntKind.i64.wrap (((i : Nat) : Int) + (1 : Int)) = (((i + 1 : Nat) : Nat) : Int) := by
        rw [wrap_small (by omega) (by omega)]; omega
      have hfr8 := hfr7.pick [(0, ⟪R, k⟫), (4, ⟪w1.heap.size, 0⟫), (8, .slice (some a0) tl.length ca), (9, .int .i64 ((tl.length : Nat) : Int)), (10, .int .i64 (IntKind.i64.wrap (((i : Nat) : Int) + (1 : Int))))] ⟨⟨rfl, rfl⟩, ⟨rfl, rfl⟩, ⟨rfl, rfl⟩, ⟨rfl, rfl⟩, ⟨rfl, rfl⟩, trivial⟩
      rw [hw] at hfr8
      have hsz5 : w.heap.size ≤ v5.heap.size := Beyond.size hC5
      have hb6 : ∀ b, b < v5.heap.size → b ≠ R → ¬ Foot vo1 vd1 os1 b → v6.heap[b]? = v5.heap[b]? := fun b hb h1 h2 => Chg.block q4 hb fun e => e.elim h1 h2
      rw [splice_again (cs := [vo1, vd1]) (vs := [vo2, vd2]) (by simp; omega) rfl] at q3
      have hlt1 : w1.heap.size < v5.heap.size := (hW5.lt _ rfl).2
      have hP6 : TIn (fun q => M q ∨ q = w1.heap.size) v6 R c eR sR (splice rs k [vo2, vd2]) vo2 vd2 os2 s'.2 := ⟨q1, fun q hq => Nat.lt_of_lt_of_le (hP5.m q hq) (Beyond.size q4), q3⟩
      have hW6 : v6.ownsRow 0 61 2 (.slice ⌜w1.heap.size⌝ 1 1) 1 [.int .i64 0, .int .i64 0] := ownsRow_same hW5 fun b hb => by
        have : w1.heap.size = b := Option.some.inj hb
        subst this
        exact hb6 _ hlt1 hWR fun e => hWF _ (.inr e) rfl
      refine ⟨tl.length - (i + 1), by omega, i + 1, vo2, vd2, os2, s'.2, rfl, by omega, hfr8, hP6.next hb7, ?_, ?_, fun _ => ⟨a0, rfl, ha1, ha2, fun j t hj => ?_⟩, row_next hW6 hb7, ?_, fun b hb hf => hF b hb (q5 b (Nat.lt_of_lt_of_le hb hsz5) hf)⟩
      · rw [hdr] at hball
        simp only [ballS, hbt] at hball
        rw [q2]
        exact hball
      · have := hlim1.take hbt
        rw [q2]
        exact this
      · refine (ha3 j t hj).of_heap ?_
        rw [block_add]
        have e1 : v6.heap[a0.block]? = v5.heap[a0.block]? := hb6 _ (Nat.lt_of_lt_of_le ha1 hsz5) (fun e => ha2 (.inl (e ▸ hMR))) fun e => ha2 (.inr (hF _ ha1 e))
        rw [hb7.block _ (Nat.lt_of_lt_of_le (Nat.lt_of_lt_of_le ha1 hsz5) (Beyond.size q4)), e1, hb25.block _ (Nat.lt_of_lt_of_le ha1 hsz2), hb2.block _ (Nat.lt_of_lt_of_le ha1 (Beyond.size hC1)), hb1.block _ (Nat.lt_of_lt_of_le ha1 (Beyond.size hC))]
      · exact (hC5.then q4 fun b hb e => e.imp id (hF b hb)).then (Chg.below (S := fun _ => False) hb7) fun b _ e => e.elim
    | inr x =>
      simp only [hbt] at hcall
      refine rest_calls (Z := fun e w' => e = .panicked [{ v := .iface 61 (.agg #[.int .i64 x.1, .int .i64 x.2]), recovered := false }] ∧ Below v5.heap.size v5 w') κ κ rfl hfr4 κ rfl (enters_of Tryd.func51 κ rfl) rfl hcall (fun v w' hz => by cases hz.1) (fun ch v6 hz => ?_) (fun w' hz => by cases hz.1)
      obtain ⟨hch, hb6⟩ := hz
      obtain rfl : ch = _ := Ending.panicked.inj hch
      simp only [Exit.then, Exit.inBlock, bodyPostD]
      rw [hfr4.1]
      refine leaves_cons (f := 50) (args := #[⟪w1.heap.size, 0⟫]) (by simp) (by simp [go_sem]) ?_
      refine (catch_wrong x.1 x.2 [] v6 (row_next hW5 hb6)).mono ?_
      rintro e u' v7 ⟨rfl, rfl, hr7, hC7⟩
      refine ⟨_, all_results (hfr4.get (t := 4) rfl) hr7, ?_⟩
      rw [hdr] at hball
      simp only [ballS, hbt] at hball
      rw [← hball]
      have hA7 : Agree (fun q => M q ∨ q = w1.heap.size) v5 v7 := ⟨Nat.le_trans hb6.size (Beyond.size hC7), fun b hb hm => (Chg.block hC7 (Nat.lt_of_lt_of_le hb hb6.size) fun e => hm (.inr e)).trans (hb6.block b hb)⟩
      refine ⟨rfl, vo1, vd1, os1, hP5.b.next hA7 (fun b _ hm => .inl hm), rfl, ownsRow_same hP5.r fun b hb => ?_, (hC5.then (Chg.below (S := fun _ => False) hb6) fun b _ e => e.elim).then hC7 fun b hb e => ?_, hF⟩
      · have : R = b := Option.some.inj hb
        subst this
        exact (Chg.block hC7 (Nat.lt_of_lt_of_le (hP5.m R (.inl hMR)) hb6.size) fun e => hWR e.symm).trans (hb6.block R (hP5.m R (.inl hMR)))
      · omega
  · -- the end
    obtain rfl : i = tl.length := by omega
    rw [List.drop_length] at hball
    refine wp_seq (wp_cond_false ((hfr2.get (t := 11) rfl).trans (by show Value.bool (decide _) = _; rw [decide_eq_false (by omega)])) (wp_exit ?_))
    simp only [Exit.then, Exit.inBlock, if_true]
    refine wp_seq (region_rest sxMix fun v2 _ hb2 => ?_)
    refine rest_reads (q := 1) (nl := [(18, .agg #[.int .i64 0, .int .i64 0])]) κ κ hfr2 rfl (.s rfl (δ ru_build rfl κ) .z) (fun a hfr3 => ?_)
    have hW2 := row_next hW1 hb2
    refine rest_store κ κ rfl hfr3 κ rfl (rs_store (vs := [.int .i64 0, .int .i64 0]) rfl κ rfl rfl rfl (by simp [Value.oneCell']) hW2 (by simp)) ?_
    rintro v3 ⟨hW3, hg3⟩
    refine rest_end κ ?_
    refine wp_ret ?_
    simp only [bodyPostD]
    rw [hfr3.1]
    refine leaves_cons (f := 50) (args := #[⟪w1.heap.size, 0⟫]) (by simp) (by simp [go_sem]) ?_
    refine (catch_idle ⟨w1.heap.size, 0, none⟩ v3).mono ?_
    rintro e u' v4 ⟨rfl, rfl, hb4⟩
    refine ⟨_, all_results (hfr3.get (t := 4) rfl) (row_next hW3 hb4), ?_⟩
    rw [← hball]
    have hRM : R < w.heap.size := h.m R hMR
    have hA4 : Agree (fun q => M q ∨ q = w1.heap.size) v1 v4 := ⟨Nat.le_trans (Nat.le_trans hb2.size hg3.size) hb4.size, fun b hb hm => (hb4.block b (Nat.lt_of_lt_of_le (Nat.lt_of_lt_of_le hb hb2.size) hg3.size)).trans ((hg3.block b (Nat.lt_of_lt_of_le hb hb2.size) fun e => hm (.inr (Option.some.inj e))).trans (hb2.block b hb))⟩
    have hR1 := hP1.m R (.inl hMR)
    refine ⟨rfl, vo1, vd1, os1, hP1.b.next hA4 (fun b _ hm => .inl hm), rfl, ownsRow_same hP1.r fun b hb => ?_, ((hC1.then (Chg.below (S := fun _ => False) hb2) fun b _ e => e.elim).then (Chg.grown' hg3) fun b hb e => ?_).then (Chg.below (S := fun _ => False) hb4) fun b _ e => e.elim, hF⟩
    · have : R = b := Option.some.inj hb
      subst this
      exact (hb4.block R (Nat.lt_of_lt_of_le (Nat.lt_of_lt_of_le hR1 hb2.size) hg3.size)).trans ((hg3.block R (Nat.lt_of_lt_of_le hR1 hb2.size) fun e => by have : R = w1.heap.size := Option.some.inj e; omega).trans (hb2.block R hR1))
    · have : w1.heap.size = b := Option.some.inj e
      omega
end Go.Proofs.YtnjpocbcfkfphaaDoor


/- sexpr's reader: what it keeps, and what its calls do. -/
namespace Go.Proofs.YtnjpocbcfkfphaaDoor
open Go.RowKit Go.FK Go.Shelf
abbrev scT : Ty := .st (.pair (.int .i64) (.pair .str (.pair .bool (.pair tokT (.int .i64)))))
structure ROk (M : Nat → Prop) (w : World) (R B cR cB : Nat) (sc : SCD) (vo vd : Value) (os : List OpD) (ds : List NodeD) (wr : Int × Int) (en : Bool) : Prop where
  m : ∀ b, M b → b < w.heap.size
  mR : M R
  mB : M B
  ne : R ≠ B
  b : BOk M 34 w vo vd os ds
  r : w.ownsRow 0 63 6 (.slice ⌜R⌝ 1 cR) 1 [⟪B, 0⟫, vo, vd, .int .i64 wr.1, .int .i64 wr.2, .bool en]
  s : ObInO M w (.slice ⌜B⌝ 1 cB) ⟨80, scT, [sc]⟩
  gl : Gl (fun b => M b ∨ Foot vo vd os b) w
variable {M : Nat → Prop} {w w1 : World} {R B cR cB : Nat} {sc : SCD} {vo vd : Value} {os : List OpD} {ds : List NodeD} {wr : Int × Int} {en : Bool}
theorem obIn_same {M M' : Nat → Prop} {w w' : World} {row : Value} {ob : Ob} (h : ObInO M w row ob) (hb : ∀ b, row.ownBlock = some b → w'.heap[b]? = w.heap[b]?) (hA : Agree M w w') (hM : ∀ b, b < w.heap.size → M' b → M b) : ObInO M' w' row ob := by
  obtain ⟨h1, h2, xs, h3, h4⟩ := h
  exact ⟨h1, h2, xs, h3.same hb, h4.next hA hM⟩
theorem ROk.scan {sc' : SCD} (h : ROk M w R B cR cB sc vo vd os ds wr en) (hc : Chg (fun b => b = B) w w1) (hs : ObInO M w1 (.slice ⌜B⌝ 1 cB) ⟨80, scT, [sc']⟩) : ROk M w1 R B cR cB sc' vo vd os ds wr en := by
  have hA : Agree M w w1 := ⟨Beyond.size hc, fun b hb hm => Chg.block hc hb fun e => hm (e ▸ h.mB)⟩
  refine ⟨fun b hb => Nat.lt_of_lt_of_le (h.m b hb) (Beyond.size hc), h.mR, h.mB, h.ne, h.b.next hA (fun _ _ h => h), ownsRow_same h.r fun b hb => ?_, hs, h.gl.next (Beyond.size hc) (fun b hb hm => Chg.block hc hb fun e => hm (.inl (e ▸ h.mB))) (fun _ _ h => h)⟩
  have : R = b := Option.some.inj hb
  subst this
  exact Chg.block hc (h.m R h.mR) h.ne
theorem ROk.below (h : ROk M w R B cR cB sc vo vd os ds wr en) (hb : Below w.heap.size w w1) : ROk M w1 R B cR cB sc vo vd os ds wr en :=
  h.scan (Chg.below hb) (obIn_same h.s (fun b e => hb.block b (by have : B = b := Option.some.inj e; subst this; exact h.m B h.mB)) (Agree.of_below hb) (fun _ _ h => h))
theorem ROk.cells {k : Nat} {vs xs : List Value} {wr' : Int × Int} {en' : Bool} {vd' : Value} {ds' : List NodeD} (h : ROk M w R B cR cB sc vo vd os ds wr en) (hg : w.grownBy w1 (some R))
    (hr : w1.ownsRow 0 63 6 (.slice ⌜R⌝ 1 cR) 1 (splice xs k vs)) (hx : splice xs k vs = [⟪B, 0⟫, vo, vd', .int .i64 wr'.1, .int .i64 wr'.2, .bool en'])
    (hb : BOk M 34 w vo vd' os ds') (hF : ∀ b, Foot vo vd' os b → Foot vo vd os b) : ROk M w1 R B cR cB sc vo vd' os ds' wr' en' := by
  have hA : Agree M w w1 := ⟨hg.size, fun b hb hm => hg.block b hb fun e => hm (by cases e; exact h.mR)⟩
  refine ⟨fun b hb => Nat.lt_of_lt_of_le (h.m b hb) hg.size, h.mR, h.mB, h.ne, hb.next hA (fun _ _ h => h), hx ▸ hr, obIn_same h.s (fun b e => ?_) hA (fun _ _ h => h), h.gl.next hg.size (fun b hb hm => hg.block b hb fun e => hm (.inl (by cases e; exact h.mR))) (fun b _ hm => hm.imp id (hF b))⟩
  have : B = b := Option.some.inj e
  subst this
  exact hg.block B (h.m B h.mB) fun e => h.ne (by cases e; rfl)
theorem ROk.mF (h : ROk M w R B cR cB sc vo vd os ds wr en) : (∀ b, (M b ∨ Foot vo vd os b) → b < w.heap.size) ∧ (∀ b, (Value.slice ⌜B⌝ 1 cB).ownBlock = some b → M b ∨ Foot vo vd os b) ∧ ObInO (fun b => M b ∨ Foot vo vd os b) w (.slice ⌜B⌝ 1 cB) ⟨80, scT, [sc]⟩ := by
  refine ⟨fun b hb => hb.elim (h.m b) fun e => h.b.lt e, fun b e => by have : B = b := Option.some.inj e; exact .inl (this ▸ h.mB), ?_⟩
  obtain ⟨q1, q2, xs, q3, q4⟩ := h.s
  refine ⟨q1, q2, xs, q3, q4.1, fun i x hi => ?_⟩
  have := q4.2 i x hi
  obtain ⟨c1, c2, e1, e2, c3, c4, e3, e4, c5, c6, e5, e6, c7, c8, e7, e8, e9⟩ := this
  exact ⟨c1, c2, e1, e2, c3, c4, e3, e4, c5, c6, e5, e6, c7, c8, e7, (rep_tok _ _).2 ((rep_tok _ _).1 e8), e9⟩
theorem ROk.cellsS {M' : Nat → Prop} {k : Nat} {vs xs : List Value} {wr' : Int × Int} {en' : Bool} {vd' : Value} {ds' : List NodeD} (h : ROk M w R B cR cB sc vo vd os ds wr en) (hMM : ∀ b, M b → M' b) (hM' : ∀ b, M' b → M b ∨ Foot vo vd os b) (hg : w.grownBy w1 (some R))
    (hr : w1.ownsRow 0 63 6 (.slice ⌜R⌝ 1 cR) 1 (splice xs k vs)) (hx : splice xs k vs = [⟪B, 0⟫, vo, vd', .int .i64 wr'.1, .int .i64 wr'.2, .bool en'])
    (hb : BOk M' 34 w vo vd' os ds') (hF : ∀ b, Foot vo vd' os b → Foot vo vd os b) : ROk M' w1 R B cR cB sc vo vd' os ds' wr' en' := by
  have hA : Agree M' w w1 := ⟨hg.size, fun b hb hm => hg.block b hb fun e => hm (by cases e; exact hMM _ h.mR)⟩
  have hA2 : Agree (fun b => M b ∨ Foot vo vd os b) w w1 := ⟨hg.size, fun b hb hm => hg.block b hb fun e => hm (by cases e; exact .inl h.mR)⟩
  obtain ⟨_, _, k3⟩ := h.mF
  refine ⟨fun b hb => Nat.lt_of_lt_of_le ((hM' b hb).elim (h.m b) fun e => h.b.lt e) hg.size, hMM _ h.mR, hMM _ h.mB, h.ne, hb.next hA (fun _ _ h => h), hx ▸ hr, obIn_same k3 (fun b e => ?_) hA2 (fun b _ hm => hM' b hm), h.gl.next hg.size (fun b hb hm => hg.block b hb fun e => hm (.inl (by cases e; exact h.mR))) (fun b _ hm => hm.elim (hM' b) fun e => .inr (hF b e))⟩
  have : B = b := Option.some.inj e
  subst this
  exact hg.block B (h.m B h.mB) fun e => h.ne (by cases e; rfl)
theorem ROk.tin (h : ROk M w R B cR cB sc vo vd os ds wr en) : TIn M w R cR 63 6 [⟪B, 0⟫, vo, vd, .int .i64 wr.1, .int .i64 wr.2, .bool en] vo vd os ds := ⟨h.b, h.m, h.r⟩
theorem does_calls {P : Program} {f : FuncId} {args : Array Value} {w : World} {Z : Ending → World → Prop} (he : ∀ args w, (callFunc f args).run P w = .ok (.enter f args) w) (h : Does P f args w Z) : Calls P f args w Z := by
  rcases h with ⟨_, h⟩ | ⟨v, w', h, _⟩
  · exact h
  · rw [he] at h; cases h
structure ScCalls (newF : Option (List SCD)) (feedF : SCD → ByteArray → Option (SCD × List TokD × Int)) (endF : SCD → Option (SCD × List TokD × Int)) (atF : SCD → Option (SCD × TokD)) : Prop where
  nw : ContractW Tryd.prog 27 ⟨[], 80, scT, true, fun (_ : Unit) => newF⟩
  fd : ContractG Tryd.prog 29 ⟨[.obj 80 scT, .val .str], [.list tokT, .int .i64], none, fun (x : SCD × ByteArray) => feedF x.1 x.2⟩
  en : ContractG Tryd.prog 30 ⟨[.obj 80 scT], [.list tokT, .int .i64], none, fun (x : SCD) => endF x⟩
  at_ : ContractG Tryd.prog 37 ⟨[.obj 80 scT], [tokT], none, fun (x : SCD) => atF x⟩
variable {newF : Option (List SCD)} {feedF : SCD → ByteArray → Option (SCD × List TokD × Int)} {endF : SCD → Option (SCD × List TokD × Int)} {atF : SCD → Option (SCD × TokD)}
theorem chg_of_beyond {w w' : World} {B c : Nat} (h : Beyond (fun b => w.heap.size ≤ b ∨ (Value.slice ⌜B⌝ 1 c).ownBlock = some b) w w') : Chg (fun b => b = B) w w' :=
  ⟨h.os, h.tape, h.output, h.size, fun k hk => h.block k fun e => hk (e.elim .inr fun e => .inl (Option.some.inj e).symm)⟩
theorem at_call (hc : ScCalls newF feedF endF atF) (h : ROk M w R B cR cB sc vo vd os ds wr en) {r : SCD × TokD} (hr : atF sc = some r) :
    Calls Tryd.prog 37 #[⟪B, 0⟫] w fun e w' => e = .returned (.agg (tokC r.2).toArray) ∧ ROk M w' R B cR cB r.1 vo vd os ds wr en ∧ Chg (fun b => b = B) w w' := by
  refine Calls.mono (does_calls (enters_of Tryd.func37 κ rfl) (hc.at_ sc r hr M w [⟪B, 0⟫] (.slice ⌜B⌝ 1 cB) h.m (fun b e => by have : B = b := Option.some.inj e; exact this ▸ h.mB) (h.gl.next (Nat.le_refl _) (fun _ _ _ => rfl) (fun b _ hm => .inl hm)) ⟨h.s, ⟨B, 1, cB, rfl, rfl⟩, trivial⟩)) ?_
  rintro e w' ⟨us, o, rds, N, he, henc, hN, hob, hres, hbe⟩
  have henc' : [(⟨scT, r.1⟩ : Dyn), ⟨tokT, r.2⟩] = o :: rds := henc
  cases henc'
  have hc' := chg_of_beyond hbe
  match us, hres with
  | [u], hres =>
    have hu : u = .agg (tokC r.2).toArray := by
      obtain ⟨_, cs, h1, h2⟩ := hres.1
      rw [rep_tok] at h1
      rw [h2, h1]; rfl
    refine ⟨by rw [he, hu]; rfl, h.scan hc' ?_, hc'⟩
    have := hob _ ⟨80, scT, [r.1]⟩ rfl rfl
    obtain ⟨q1, q2, xs, q3, q4⟩ := this
    exact ⟨q1, q2, xs, q3, q4.next (Agree.refl _ _) fun b _ hm => .inl hm⟩
theorem toks_call {f : FuncId} {r : SCD × List TokD × Int} {args : List Value} (h : ROk M w R B cR cB sc vo vd os ds wr en) (hcall : Does Tryd.prog f args.toArray w fun e w' => ∃ (us : List Value) (o : Dyn) (rds : List Dyn) (N : Nat → Prop), e = .returned (tupleOf us) ∧ [(⟨scT, r.1⟩ : Dyn), ⟨.list tokT, r.2.1⟩, ⟨.int .i64, r.2.2⟩] = o :: rds ∧ (∀ b, N b → w.heap.size ≤ b) ∧
      (∀ ob, PK.ob (.obj 80 scT) o = some ob → ObInO (fun b => (M b ∨ Foot vo vd os b) ∨ N b) w' (.slice ⌜B⌝ 1 cB) ob) ∧ RepDs (fun b => (M b ∨ Foot vo vd os b) ∨ N b) w' rds us ∧ Beyond (fun b => w.heap.size ≤ b ∨ (Value.slice ⌜B⌝ 1 cB).ownBlock = some b) w w')
    (he : ∀ args w, (callFunc f args).run Tryd.prog w = .ok (.enter f args) w) :
    Calls Tryd.prog f args.toArray w fun e w' => ∃ lv, e = .returned (.tuple #[lv, .int .i64 r.2.2]) ∧ Rep (fun b => M b ∨ Foot vo vd os b) w' (.list tokT) r.2.1 [lv] ∧ ROk M w' R B cR cB r.1 vo vd os ds wr en ∧ Chg (fun b => b = B) w w' := by
  refine Calls.mono (does_calls he hcall) ?_
  rintro e w' ⟨us, o, rds, N, he, henc, hN, hob, hres, hbe⟩
  cases henc
  have hc' := chg_of_beyond hbe
  match us, hres with
  | [u, v], hres =>
    have hv : v = .int .i64 r.2.2 := repV_int hres.2.1
    obtain ⟨_, cs, h1, h2⟩ := hres.1
    obtain ⟨A, c, xs, rfl, _⟩ := Rep.row (by decide) h1
    have hu : u = .slice A r.2.1.length c := by rw [h2]; rfl
    refine ⟨u, by rw [he, hv]; rfl, by rw [hu]; exact Rep.next (Agree.refl _ _) (fun b _ hm => .inl hm) _ _ _ h1, h.scan hc' ?_, hc'⟩
    obtain ⟨q1, q2, xs, q3, q4⟩ := hob ⟨80, scT, [r.1]⟩ rfl
    exact ⟨q1, q2, xs, q3, q4.next (Agree.refl _ _) fun b _ hm => .inl (.inl hm)⟩
theorem feed_call (hc : ScCalls newF feedF endF atF) (h : ROk M w R B cR cB sc vo vd os ds wr en) {s : ByteArray} {r : SCD × List TokD × Int} (hr : feedF sc s = some r) :
    Calls Tryd.prog 29 #[⟪B, 0⟫, .string s] w fun e w' => ∃ lv, e = .returned (.tuple #[lv, .int .i64 r.2.2]) ∧ Rep (fun b => M b ∨ Foot vo vd os b) w' (.list tokT) r.2.1 [lv] ∧ ROk M w' R B cR cB r.1 vo vd os ds wr en ∧ Chg (fun b => b = B) w w' := by
  obtain ⟨k1, k2, k3⟩ := h.mF
  refine toks_call (args := [⟪B, 0⟫, .string s]) h ?_ (enters_of Tryd.func29 κ rfl)
  have := hc.fd (sc, s) r hr (fun b => M b ∨ Foot vo vd os b) w [⟪B, 0⟫, .string s] (.slice ⌜B⌝ 1 cB) k1 k2 h.gl ⟨k3, ⟨B, 1, cB, rfl, rfl⟩, str_repV _ _ _, trivial⟩
  rcases this with ⟨q1, q2⟩ | ⟨v, w', q1, q2⟩
  · refine .inl ⟨q1, Calls.mono q2 ?_⟩
    rintro e w' ⟨us, o, rds, N, a1, a2, a3, a4, a5, a6⟩
    exact ⟨us, o, rds, N, a1, a2, a3, fun ob hob => a4 _ ob rfl hob, a5, a6⟩
  · refine .inr ⟨v, w', q1, ?_⟩
    obtain ⟨us, o, rds, N, a1, a2, a3, a4, a5, a6⟩ := q2
    exact ⟨us, o, rds, N, a1, a2, a3, fun ob hob => a4 _ ob rfl hob, a5, a6⟩
theorem end_call (hc : ScCalls newF feedF endF atF) (h : ROk M w R B cR cB sc vo vd os ds wr en) {r : SCD × List TokD × Int} (hr : endF sc = some r) :
    Calls Tryd.prog 30 #[⟪B, 0⟫] w fun e w' => ∃ lv, e = .returned (.tuple #[lv, .int .i64 r.2.2]) ∧ Rep (fun b => M b ∨ Foot vo vd os b) w' (.list tokT) r.2.1 [lv] ∧ ROk M w' R B cR cB r.1 vo vd os ds wr en ∧ Chg (fun b => b = B) w w' := by
  obtain ⟨k1, k2, k3⟩ := h.mF
  refine toks_call (args := [⟪B, 0⟫]) h ?_ (enters_of Tryd.func30 κ rfl)
  have := hc.en sc r hr (fun b => M b ∨ Foot vo vd os b) w [⟪B, 0⟫] (.slice ⌜B⌝ 1 cB) k1 k2 h.gl ⟨k3, ⟨B, 1, cB, rfl, rfl⟩, trivial⟩
  rcases this with ⟨q1, q2⟩ | ⟨v, w', q1, q2⟩
  · refine .inl ⟨q1, Calls.mono q2 ?_⟩
    rintro e w' ⟨us, o, rds, N, a1, a2, a3, a4, a5, a6⟩
    exact ⟨us, o, rds, N, a1, a2, a3, fun ob hob => a4 _ ob rfl hob, a5, a6⟩
  · refine .inr ⟨v, w', q1, ?_⟩
    obtain ⟨us, o, rds, N, a1, a2, a3, a4, a5, a6⟩ := q2
    exact ⟨us, o, rds, N, a1, a2, a3, fun ob hob => a4 _ ob rfl hob, a5, a6⟩
theorem ROk.built {vo1 vd1 : Value} {os1 : List OpD} {ds1 : List NodeD} (h : ROk M w R B cR cB sc vo vd os ds wr en) (hb : BOk M 34 w1 vo1 vd1 os1 ds1) (hr : w1.ownsRow 0 63 6 (.slice ⌜R⌝ 1 cR) 1 [⟪B, 0⟫, vo1, vd1, .int .i64 wr.1, .int .i64 wr.2, .bool en])
    (hc : Chg (fun b => b = R ∨ Foot vo vd os b) w w1) (hF : ∀ b, b < w.heap.size → Foot vo1 vd1 os1 b → Foot vo vd os b) : ROk M w1 R B cR cB sc vo1 vd1 os1 ds1 wr en := by
  have hA : Agree (fun b => M b ∨ Foot vo vd os b) w w1 := ⟨Beyond.size hc, fun b hb hm => Chg.block hc hb fun e => hm (e.elim (fun e => .inl (e ▸ h.mR)) .inr)⟩
  obtain ⟨_, _, k3⟩ := h.mF
  have hs := obIn_same k3 (w' := w1) (fun b e => by
    have : B = b := Option.some.inj e
    subst this
    exact Chg.block hc (h.m B h.mB) fun e => e.elim (fun e => h.ne e.symm) fun e => h.b.m B e h.mB) hA (M' := M) (fun b _ hm => .inl hm)
  exact ⟨fun b hb => Nat.lt_of_lt_of_le (h.m b hb) (Beyond.size hc), h.mR, h.mB, h.ne, hb, hr, hs, h.gl.next (Beyond.size hc) hA.block fun b hb hm => hm.imp id (hF b hb)⟩
theorem sxTyE : TyOk Tryd.prog 23 ⟨.int .i64, 0, 0⟩ := tyB_ok κ
theorem sxTyBo : TyOk Tryd.prog 4 ⟨.bool, 0, 0⟩ := tyB_ok κ
theorem toks_at {N : Nat → Prop} {l : List TokD} {lv : Value} (h : Rep N w (.list tokT) l [lv]) : ∃ A ca, lv = .slice A l.length ca ∧ (0 < l.length → ∃ a, A = some a ∧ a.block < w.heap.size ∧ ¬ N a.block ∧ ∀ i t, l[i]? = some t → AtA w (a.add (i * 6)) (tokC t)) := by
  obtain ⟨A, c, hv, _, _, hel⟩ := h
  refine ⟨A, c, (List.cons.inj hv).1, fun h0 => ?_⟩
  obtain ⟨a, q1, q2, q3, q4⟩ := hel h0
  refine ⟨a, q1, q2, q3, fun i t hi j v hj => ?_⟩
  obtain ⟨es, e1, e2⟩ := q4 i t hi
  rw [rep_tok] at e1
  subst e1
  rw [add_add]
  exact e2 j v hj
theorem took_bad {A : Option Addr} {ca : Nat} {l : List TokD} {err : Int} (h : ROk M w R B cR cB sc vo vd os ds wr en) (hA : 0 < l.length → ∃ a, A = some a ∧ a.block < w.heap.size ∧ ¬ (M a.block ∨ Foot vo vd os a.block) ∧ ∀ i t, l[i]? = some t → AtA w (a.add (i * 6)) (tokC t)) (hlim : limB (absO os, ds) l.length = true) (he : ¬ (ballS (absO os, ds) l).2.1 = 0) :
    Calls Tryd.prog 28 #[⟪R, 0⟫, .slice A l.length ca, .int .i64 err] w fun e w' => ∃ vo' os' v, e = .returned v ∧ OwnL (fun b => M b ∨ Foot vo' (.slice none 0 0) os' b) 34 w' v (ballS (absO os, ds) l).1.2 ∧ ROk M w' R B cR cB sc vo' (.slice none 0 0) os' [] (ballS (absO os, ds) l).2 en ∧ ROk (fun b => M b ∨ v.ownBlock = some b) w' R B cR cB sc vo' (.slice none 0 0) os' [] (ballS (absO os, ds) l).2 en ∧ absO os' = (ballS (absO os, ds) l).1.1 ∧ Chg (fun b => b = R ∨ b = B ∨ Foot vo vd os b) w w' ∧ ∀ b, b < w.heap.size → (Foot vo' (.slice none 0 0) os' b ∨ v.ownBlock = some b) → Foot vo vd os b := by
  refine calls_of_wp Tryd.func28 rfl ?_
  have hfr : Fr [] 47 [(0, ⟪R, 0⟫), (1, .slice A l.length ca), (2, .int .i64 err)] { tmps := #[⟪R, 0⟫, .slice A l.length ca, .int .i64 err] ++ Array.replicate (47 - 3) undef, defers := [] } := fr_entry (args := #[⟪R, 0⟫, .slice A l.length ca, .int .i64 err]) (by simp) (fun t ht => by
    rcases t with _ | _ | _ | t
    · exact ⟨by simp, rfl⟩
    · exact ⟨by simp, rfl⟩
    · exact ⟨by simp, rfl⟩
    · exact absurd ht (by simp [hasK]))
  change Code.wp _ _ _ { tmps := #[⟪R, 0⟫, .slice A l.length ca, .int .i64 err] ++ Array.replicate (47 - 3) undef, defers := [] } _
  generalize ({ tmps := #[⟪R, 0⟫, .slice A l.length ca, .int .i64 err] ++ Array.replicate (47 - 3) undef, defers := [] } : Act) = a at hfr ⊢
  refine wp_seq (region_rest sxMix fun w1 _ hb1 => ?_)
  refine rest_reads (q := 1) (nl := [(6, .slice none 0 0)]) κ κ hfr rfl (.s rfl (δ ru_assign rfl rfl) .z) (fun a hfr1 => ?_)
  refine rest_end κ ?_
  refine wp_seq (region_rest sxMix fun w2 _ hb2 => ?_)
  have hb02 : Below w.heap.size w w2 := hb1.trans (hb2.mono hb1.size)
  have hP2 := h.below hb02
  have hA2 : 0 < l.length → ∃ a, A = some a ∧ a.block < w2.heap.size ∧ ¬ (M a.block ∨ Foot vo vd os a.block) ∧ ∀ i t, l[i]? = some t → AtA w2 (a.add (i * 6)) (tokC t) := fun h0 => by
    obtain ⟨a, q1, q2, q3, q4⟩ := hA h0
    exact ⟨a, q1, Nat.lt_of_lt_of_le q2 hb02.size, q3, fun i t hi => (q4 i t hi).of_heap (by rw [block_add]; exact hb02.block _ q2)⟩
  refine rest_reads (q := 5) (nl := [(8, ⟪R, 0⟫), (9, ⟪R, 0⟫), (10, ⟪R, 0⟫), (11, ⟪R, 0 + 1⟫), (12, (.slice A l.length ca))]) κ κ hfr1 rfl (.s rfl (δ ru_move rfl rfl)
    (.s rfl (δ ru_move rfl rfl)
    (.s rfl (δ ru_nil rfl rfl)
    (.s rfl (δ ru_field (d := 1) rfl κ rfl)
    (.s rfl (δ ru_move rfl rfl)
    (.z)))))) (fun a hfr2 => ?_)
  have hall := all_ok (ca := ca) (k := 0 + 1) hP2.tin hP2.mR rfl hA2 (N := limN - l.length) (by have := limB_n hlim; simp only [limN] at *; omega) (limB_ok hlim)
  refine rest_call0 κ κ rfl hfr2 κ rfl (enters_of Tryd.func36 κ rfl) rfl hall ?_
  rintro w3 ⟨vo1, vd1, os1, hB3, hab, hr3, hch3, hF3⟩
  have hP3 := hP2.built hB3 hr3 hch3 hF3
  generalize hbb : ballS (absO os, ds) l = bb at *
  have hfr3 := hfr2.put (d := 13) (by decide) (.agg #[.int .i64 bb.2.1, .int .i64 bb.2.2])
  refine rest_reads (q := 8) (nl := [(14, ⟪R, 0⟫), (15, ⟪R, 0 + 3⟫)]) κ κ hfr3 rfl (.s rfl (δ ru_nil rfl rfl)
    (.s rfl (δ ru_field (d := 3) rfl κ rfl)
    (.z))) (fun a hfr4 => ?_)
  refine rest_store κ κ rfl hfr4 κ rfl (rs_store (vs := [.int .i64 bb.2.1, .int .i64 bb.2.2]) rfl κ rfl rfl rfl (by simp [Value.oneCell']) hP3.r (by simp)) ?_
  rintro w4 ⟨hr4, hg4⟩
  have hP4 := hP3.cells (wr' := bb.2) hg4 hr4 rfl hP3.b (fun _ h => h)
  have hC4 : Chg (fun b => b = R ∨ b = B ∨ Foot vo vd os b) w w4 := ((Chg.below (S := fun b => b = R ∨ b = B ∨ Foot vo vd os b) hb02).then hch3 fun b _ e => e.elim .inl fun e => .inr (.inr e)).then (Chg.grown' hg4) fun b _ e => .inl (Option.some.inj e).symm
  have hFF : ∀ b, b < w.heap.size → Foot vo1 vd1 os1 b → Foot vo vd os b := fun b hb => hF3 b (Nat.lt_of_lt_of_le hb hb02.size)
  refine rest_end κ ?_
  refine wp_seq (wp_seq (wp_region_list ?_))
  refine list_go (v := ⟪R, 0⟫) (.inl ⟨rfl, rfl⟩) (by intro _ _ e; cases e) hfr4 κ rfl (ru_move rfl rfl) (fun a hg2_0 => ?_)
  refine list_go (v := ⟪R, 0⟫) (.inl ⟨rfl, rfl⟩) (by intro _ _ e; cases e) hg2_0 κ rfl (ru_nil rfl rfl) (fun a hg2_1 => ?_)
  refine list_go (v := ⟪R, 0 + 3⟫) (.inl ⟨rfl, rfl⟩) (by intro _ _ e; cases e) hg2_1 κ rfl (ru_field (d := 3) rfl κ rfl) (fun a hg2_2 => ?_)
  refine list_go (v := ⟪R, 0 + 3 + 0⟫) (.inl ⟨rfl, rfl⟩) (by intro _ _ e; cases e) hg2_2 κ rfl (ru_field (d := 0) rfl κ rfl) (fun a hg2_3 => ?_)
  refine list_go (v := (.int .i64 (bb.2.1))) (.inl ⟨rfl, rfl⟩) (by intro _ _ e; cases e) hg2_3 κ rfl (ru_load rfl sxTyE rfl rfl (At.rd (At.row (cs := [(.int .i64 (bb.2.1))]) hP4.r rfl rfl) (by simp) fun _ _ => rfl)) (fun a hg2_4 => ?_)
  refine list_go (v := (.bool (decide (bb.2.1 = (0 : Int))))) (.inl ⟨rfl, rfl⟩) (by intro _ _ e; cases e) hg2_4 κ rfl (ru_eq rfl rfl rfl) (fun a hg2_5 => ?_)
  refine list_go (v := (.bool (decide (bb.2.1 = (0 : Int))))) (.inl ⟨rfl, rfl⟩) (by intro _ _ e; cases e) hg2_5 κ rfl (ru_move rfl rfl) (fun a hg2_6 => ?_)
  refine list_no (.inr ⟨_, _, _, _, rfl, rfl, rfl, by kernel_rfl, by decide, (by show Value.bool (decide _) = _; rw [decide_eq_false he]; rfl)⟩) hg2_6 κ rfl (fun a hg2_7 => ?_)
  refine list_no (.inr ⟨_, _, _, _, rfl, rfl, rfl, by kernel_rfl, by decide, (by show Value.bool (decide _) = _; rw [decide_eq_false he]; rfl)⟩) hg2_7 κ rfl (fun a hg2_8 => ?_)
  refine list_go (v := (.bool (false))) (.inl ⟨rfl, rfl⟩) (by intro _ _ e; cases e) hg2_8 κ rfl (ru_pick rfl (by show Value.bool (decide _) = _; rw [decide_eq_false he]) rfl) (fun a hg2_9 => ?_)
  refine wp_cond_false (hg2_9.get (t := 25) rfl) (wp_skip ?_)
  refine wp_seq (region_rest sxMix fun w6 _ hb6 => ?_)
  have hP6 := hP4.below hb6
  refine rest_reads (q := 6) (nl := [(37, ⟪R, 0⟫), (38, ⟪R, 0⟫), (39, ⟪R, 0 + 1⟫), (40, ⟪R, 0 + 1 + 1⟫), (41, vd1), (7, vd1)]) κ κ hg2_9 rfl (.s rfl (δ ru_move rfl rfl)
    (.s rfl (δ ru_nil rfl rfl)
    (.s rfl (δ ru_field (d := 1) rfl κ rfl)
    (.s rfl (δ ru_field (d := 1) rfl κ rfl)
    (.s rfl (rd_of rfl rfl fun _ hw => ru_load rfl sxTyL rfl rfl (At.rd (At.row (cs := [vd1]) hP6.r rfl rfl) (by simp) hw))
    (.s rfl (δ ru_assign rfl rfl)
    (.z))))))) (fun a hfr8 => ?_)
  refine rest_end κ ?_
  refine wp_seq (region_rest sxMix fun w7 _ hb7 => ?_)
  have hP7 := hP6.below hb7
  refine rest_reads (q := 4) (nl := [(42, ⟪R, 0⟫), (43, ⟪R, 0⟫), (44, ⟪R, 0 + 1⟫), (45, ⟪R, 0 + 1 + 1⟫)]) κ κ hfr8 rfl (.s rfl (δ ru_move rfl rfl)
    (.s rfl (δ ru_nil rfl rfl)
    (.s rfl (δ ru_field (d := 1) rfl κ rfl)
    (.s rfl (δ ru_field (d := 1) rfl κ rfl)
    (.z))))) (fun a hfr9 => ?_)
  refine rest_store κ κ rfl hfr9 κ rfl (rs_store (vs := [.slice none 0 0]) rfl κ rfl rfl rfl (by simp [Value.oneCell']) hP7.r (by simp)) ?_
  rintro w8 ⟨hr8, hg8⟩
  obtain ⟨hd1, hd2, hd3⟩ := hP7.b.drain
  have hP8 := hP7.cells (wr' := bb.2) hg8 hr8 rfl (hd1.next (M' := M) (Agree.refl _ _) fun _ _ h => .inl h) hd3
  have hS8 := hP7.cellsS (wr' := bb.2) (M' := fun b => M b ∨ vd1.ownBlock = some b) (fun _ h => .inl h) (fun b hm => hm.imp id fun e => .inr (.inl e)) hg8 hr8 rfl hd1 hd3
  have hO8 := hd2.next (M' := fun b => M b ∨ Foot vo1 (.slice none 0 0) os1 b) (w' := w8) ⟨hg8.size, fun b hb hm => hg8.block b hb fun e => hm (.inl (by cases e; exact hP7.mR))⟩ (fun _ _ h => h)
  refine rest_end κ ?_
  refine wp_seq (region_rest sxMix fun w9 _ hb9 => ?_)
  have hP9 := hP8.below hb9
  have hS9 := hS8.below hb9
  have hO9 := hO8.next (Agree.of_below hb9) (fun _ _ h => h)
  refine rest_reads (q := 2) (nl := [(46, vd1), (6, vd1)]) κ κ hfr9 rfl (.s rfl (δ ru_move rfl rfl)
    (.s rfl (δ ru_assign rfl rfl)
    (.z))) (fun a hfr10 => ?_)
  refine rest_end κ ?_
  refine wp_ret ?_
  have hC9 : Chg (fun b => b = R ∨ b = B ∨ Foot vo vd os b) w w9 := (((hC4.then (Chg.below (S := fun _ => False) hb6) fun b _ e => e.elim).then (Chg.below (S := fun _ => False) hb7) fun b _ e => e.elim).then (Chg.grown' hg8) fun b _ e => .inl (Option.some.inj e).symm).then (Chg.below (S := fun _ => False) hb9) fun b _ e => e.elim
  refine ⟨hfr10.1, vd1, ?_, vo1, os1, vd1, rfl, hO9, hP9, hS9, hab, hC9, fun b hb hf => hf.elim (fun hf => hFF b hb (hd3 b hf)) fun e => hFF b hb (.inr (.inl e))⟩
  have := results_tmp (P := Tryd.prog) (fn := Tryd.f28) (t := 6) κ a.tmps w9
  rw [this]
  exact congrArg (fun v => Result.ok v w9) (hfr10.get (t := 6) rfl)
theorem took_good {A : Option Addr} {ca : Nat} {l : List TokD} {err : Int} (h : ROk M w R B cR cB sc vo vd os ds wr en) (hA : 0 < l.length → ∃ a, A = some a ∧ a.block < w.heap.size ∧ ¬ (M a.block ∨ Foot vo vd os a.block) ∧ ∀ i t, l[i]? = some t → AtA w (a.add (i * 6)) (tokC t)) (hlim : limB (absO os, ds) l.length = true) (he : (ballS (absO os, ds) l).2.1 = 0) (her : err = 0) :
    Calls Tryd.prog 28 #[⟪R, 0⟫, .slice A l.length ca, .int .i64 err] w fun e w' => ∃ vo' os' v, e = .returned v ∧ OwnL (fun b => M b ∨ Foot vo' (.slice none 0 0) os' b) 34 w' v (ballS (absO os, ds) l).1.2 ∧ ROk M w' R B cR cB sc vo' (.slice none 0 0) os' [] (ballS (absO os, ds) l).2 en ∧ ROk (fun b => M b ∨ v.ownBlock = some b) w' R B cR cB sc vo' (.slice none 0 0) os' [] (ballS (absO os, ds) l).2 en ∧ absO os' = (ballS (absO os, ds) l).1.1 ∧ Chg (fun b => b = R ∨ b = B ∨ Foot vo vd os b) w w' ∧ ∀ b, b < w.heap.size → (Foot vo' (.slice none 0 0) os' b ∨ v.ownBlock = some b) → Foot vo vd os b := by
  refine calls_of_wp Tryd.func28 rfl ?_
  have hfr : Fr [] 47 [(0, ⟪R, 0⟫), (1, .slice A l.length ca), (2, .int .i64 err)] { tmps := #[⟪R, 0⟫, .slice A l.length ca, .int .i64 err] ++ Array.replicate (47 - 3) undef, defers := [] } := fr_entry (args := #[⟪R, 0⟫, .slice A l.length ca, .int .i64 err]) (by simp) (fun t ht => by
    rcases t with _ | _ | _ | t
    · exact ⟨by simp, rfl⟩
    · exact ⟨by simp, rfl⟩
    · exact ⟨by simp, rfl⟩
    · exact absurd ht (by simp [hasK]))
  change Code.wp _ _ _ { tmps := #[⟪R, 0⟫, .slice A l.length ca, .int .i64 err] ++ Array.replicate (47 - 3) undef, defers := [] } _
  generalize ({ tmps := #[⟪R, 0⟫, .slice A l.length ca, .int .i64 err] ++ Array.replicate (47 - 3) undef, defers := [] } : Act) = a at hfr ⊢
  refine wp_seq (region_rest sxMix fun w1 _ hb1 => ?_)
  refine rest_reads (q := 1) (nl := [(6, .slice none 0 0)]) κ κ hfr rfl (.s rfl (δ ru_assign rfl rfl) .z) (fun a hfr1 => ?_)
  refine rest_end κ ?_
  refine wp_seq (region_rest sxMix fun w2 _ hb2 => ?_)
  have hb02 : Below w.heap.size w w2 := hb1.trans (hb2.mono hb1.size)
  have hP2 := h.below hb02
  have hA2 : 0 < l.length → ∃ a, A = some a ∧ a.block < w2.heap.size ∧ ¬ (M a.block ∨ Foot vo vd os a.block) ∧ ∀ i t, l[i]? = some t → AtA w2 (a.add (i * 6)) (tokC t) := fun h0 => by
    obtain ⟨a, q1, q2, q3, q4⟩ := hA h0
    exact ⟨a, q1, Nat.lt_of_lt_of_le q2 hb02.size, q3, fun i t hi => (q4 i t hi).of_heap (by rw [block_add]; exact hb02.block _ q2)⟩
  refine rest_reads (q := 5) (nl := [(8, ⟪R, 0⟫), (9, ⟪R, 0⟫), (10, ⟪R, 0⟫), (11, ⟪R, 0 + 1⟫), (12, (.slice A l.length ca))]) κ κ hfr1 rfl (.s rfl (δ ru_move rfl rfl)
    (.s rfl (δ ru_move rfl rfl)
    (.s rfl (δ ru_nil rfl rfl)
    (.s rfl (δ ru_field (d := 1) rfl κ rfl)
    (.s rfl (δ ru_move rfl rfl)
    (.z)))))) (fun a hfr2 => ?_)
  have hall := all_ok (ca := ca) (k := 0 + 1) hP2.tin hP2.mR rfl hA2 (N := limN - l.length) (by have := limB_n hlim; simp only [limN] at *; omega) (limB_ok hlim)
  refine rest_call0 κ κ rfl hfr2 κ rfl (enters_of Tryd.func36 κ rfl) rfl hall ?_
  rintro w3 ⟨vo1, vd1, os1, hB3, hab, hr3, hch3, hF3⟩
  have hP3 := hP2.built hB3 hr3 hch3 hF3
  generalize hbb : ballS (absO os, ds) l = bb at *
  have hfr3 := hfr2.put (d := 13) (by decide) (.agg #[.int .i64 bb.2.1, .int .i64 bb.2.2])
  refine rest_reads (q := 8) (nl := [(14, ⟪R, 0⟫), (15, ⟪R, 0 + 3⟫)]) κ κ hfr3 rfl (.s rfl (δ ru_nil rfl rfl)
    (.s rfl (δ ru_field (d := 3) rfl κ rfl)
    (.z))) (fun a hfr4 => ?_)
  refine rest_store κ κ rfl hfr4 κ rfl (rs_store (vs := [.int .i64 bb.2.1, .int .i64 bb.2.2]) rfl κ rfl rfl rfl (by simp [Value.oneCell']) hP3.r (by simp)) ?_
  rintro w4 ⟨hr4, hg4⟩
  have hP4 := hP3.cells (wr' := bb.2) hg4 hr4 rfl hP3.b (fun _ h => h)
  have hC4 : Chg (fun b => b = R ∨ b = B ∨ Foot vo vd os b) w w4 := ((Chg.below (S := fun b => b = R ∨ b = B ∨ Foot vo vd os b) hb02).then hch3 fun b _ e => e.elim .inl fun e => .inr (.inr e)).then (Chg.grown' hg4) fun b _ e => .inl (Option.some.inj e).symm
  have hFF : ∀ b, b < w.heap.size → Foot vo1 vd1 os1 b → Foot vo vd os b := fun b hb => hF3 b (Nat.lt_of_lt_of_le hb hb02.size)
  refine rest_end κ ?_
  refine wp_seq (wp_seq (wp_region_list ?_))
  refine list_go (v := ⟪R, 0⟫) (.inl ⟨rfl, rfl⟩) (by intro _ _ e; cases e) hfr4 κ rfl (ru_move rfl rfl) (fun a hg2_0 => ?_)
  refine list_go (v := ⟪R, 0⟫) (.inl ⟨rfl, rfl⟩) (by intro _ _ e; cases e) hg2_0 κ rfl (ru_nil rfl rfl) (fun a hg2_1 => ?_)
  refine list_go (v := ⟪R, 0 + 3⟫) (.inl ⟨rfl, rfl⟩) (by intro _ _ e; cases e) hg2_1 κ rfl (ru_field (d := 3) rfl κ rfl) (fun a hg2_2 => ?_)
  refine list_go (v := ⟪R, 0 + 3 + 0⟫) (.inl ⟨rfl, rfl⟩) (by intro _ _ e; cases e) hg2_2 κ rfl (ru_field (d := 0) rfl κ rfl) (fun a hg2_3 => ?_)
  refine list_go (v := (.int .i64 (bb.2.1))) (.inl ⟨rfl, rfl⟩) (by intro _ _ e; cases e) hg2_3 κ rfl (ru_load rfl sxTyE rfl rfl (At.rd (At.row (cs := [(.int .i64 (bb.2.1))]) hP4.r rfl rfl) (by simp) fun _ _ => rfl)) (fun a hg2_4 => ?_)
  refine list_go (v := (.bool (decide (bb.2.1 = (0 : Int))))) (.inl ⟨rfl, rfl⟩) (by intro _ _ e; cases e) hg2_4 κ rfl (ru_eq rfl rfl rfl) (fun a hg2_5 => ?_)
  refine list_go (v := (.bool (decide (bb.2.1 = (0 : Int))))) (.inl ⟨rfl, rfl⟩) (by intro _ _ e; cases e) hg2_5 κ rfl (ru_move rfl rfl) (fun a hg2_6 => ?_)
  refine list_go (v := (.int .i64 (err))) (.inr ⟨_, _, _, _, rfl, rfl, rfl, by kernel_rfl, by decide, (by show Value.bool (decide _) = _; rw [decide_eq_true he]; rfl)⟩) (by intro _ _ e; cases e) hg2_6 κ rfl (ru_move rfl rfl) (fun a hg2_7 => ?_)
  refine list_go (v := (.bool (!decide (err = (0 : Int))))) (.inr ⟨_, _, _, _, rfl, rfl, rfl, by kernel_rfl, by decide, (by show Value.bool (decide _) = _; rw [decide_eq_true he]; rfl)⟩) (by intro _ _ e; cases e) hg2_7 κ rfl (ru_ne rfl rfl rfl) (fun a hg2_8 => ?_)
  refine list_go (v := (.bool (!decide (err = (0 : Int))))) (.inl ⟨rfl, rfl⟩) (by intro _ _ e; cases e) hg2_8 κ rfl (ru_pick rfl (b := true) (by show Value.bool (decide _) = _; rw [decide_eq_true he]) rfl) (fun a hg2_9 => ?_)
  refine wp_cond_false ((hg2_9.get (t := 25) rfl).trans (by show Value.bool (!decide _) = _; rw [decide_eq_true her]; rfl)) (wp_skip ?_)
  refine wp_seq (region_rest sxMix fun w6 _ hb6 => ?_)
  have hP6 := hP4.below hb6
  refine rest_reads (q := 6) (nl := [(37, ⟪R, 0⟫), (38, ⟪R, 0⟫), (39, ⟪R, 0 + 1⟫), (40, ⟪R, 0 + 1 + 1⟫), (41, vd1), (7, vd1)]) κ κ hg2_9 rfl (.s rfl (δ ru_move rfl rfl)
    (.s rfl (δ ru_nil rfl rfl)
    (.s rfl (δ ru_field (d := 1) rfl κ rfl)
    (.s rfl (δ ru_field (d := 1) rfl κ rfl)
    (.s rfl (rd_of rfl rfl fun _ hw => ru_load rfl sxTyL rfl rfl (At.rd (At.row (cs := [vd1]) hP6.r rfl rfl) (by simp) hw))
    (.s rfl (δ ru_assign rfl rfl)
    (.z))))))) (fun a hfr8 => ?_)
  refine rest_end κ ?_
  refine wp_seq (region_rest sxMix fun w7 _ hb7 => ?_)
  have hP7 := hP6.below hb7
  refine rest_reads (q := 4) (nl := [(42, ⟪R, 0⟫), (43, ⟪R, 0⟫), (44, ⟪R, 0 + 1⟫), (45, ⟪R, 0 + 1 + 1⟫)]) κ κ hfr8 rfl (.s rfl (δ ru_move rfl rfl)
    (.s rfl (δ ru_nil rfl rfl)
    (.s rfl (δ ru_field (d := 1) rfl κ rfl)
    (.s rfl (δ ru_field (d := 1) rfl κ rfl)
    (.z))))) (fun a hfr9 => ?_)
  refine rest_store κ κ rfl hfr9 κ rfl (rs_store (vs := [.slice none 0 0]) rfl κ rfl rfl rfl (by simp [Value.oneCell']) hP7.r (by simp)) ?_
  rintro w8 ⟨hr8, hg8⟩
  obtain ⟨hd1, hd2, hd3⟩ := hP7.b.drain
  have hP8 := hP7.cells (wr' := bb.2) hg8 hr8 rfl (hd1.next (M' := M) (Agree.refl _ _) fun _ _ h => .inl h) hd3
  have hS8 := hP7.cellsS (wr' := bb.2) (M' := fun b => M b ∨ vd1.ownBlock = some b) (fun _ h => .inl h) (fun b hm => hm.imp id fun e => .inr (.inl e)) hg8 hr8 rfl hd1 hd3
  have hO8 := hd2.next (M' := fun b => M b ∨ Foot vo1 (.slice none 0 0) os1 b) (w' := w8) ⟨hg8.size, fun b hb hm => hg8.block b hb fun e => hm (.inl (by cases e; exact hP7.mR))⟩ (fun _ _ h => h)
  refine rest_end κ ?_
  refine wp_seq (region_rest sxMix fun w9 _ hb9 => ?_)
  have hP9 := hP8.below hb9
  have hS9 := hS8.below hb9
  have hO9 := hO8.next (Agree.of_below hb9) (fun _ _ h => h)
  refine rest_reads (q := 2) (nl := [(46, vd1), (6, vd1)]) κ κ hfr9 rfl (.s rfl (δ ru_move rfl rfl)
    (.s rfl (δ ru_assign rfl rfl)
    (.z))) (fun a hfr10 => ?_)
  refine rest_end κ ?_
  refine wp_ret ?_
  have hC9 : Chg (fun b => b = R ∨ b = B ∨ Foot vo vd os b) w w9 := (((hC4.then (Chg.below (S := fun _ => False) hb6) fun b _ e => e.elim).then (Chg.below (S := fun _ => False) hb7) fun b _ e => e.elim).then (Chg.grown' hg8) fun b _ e => .inl (Option.some.inj e).symm).then (Chg.below (S := fun _ => False) hb9) fun b _ e => e.elim
  refine ⟨hfr10.1, vd1, ?_, vo1, os1, vd1, rfl, hO9, hP9, hS9, hab, hC9, fun b hb hf => hf.elim (fun hf => hFF b hb (hd3 b hf)) fun e => hFF b hb (.inr (.inl e))⟩
  have := results_tmp (P := Tryd.prog) (fn := Tryd.f28) (t := 6) κ a.tmps w9
  rw [this]
  exact congrArg (fun v => Result.ok v w9) (hfr10.get (t := 6) rfl)
theorem took_err {A : Option Addr} {ca : Nat} {l : List TokD} {err : Int} (h : ROk M w R B cR cB sc vo vd os ds wr en) (hA : 0 < l.length → ∃ a, A = some a ∧ a.block < w.heap.size ∧ ¬ (M a.block ∨ Foot vo vd os a.block) ∧ ∀ i t, l[i]? = some t → AtA w (a.add (i * 6)) (tokC t)) (hlim : limB (absO os, ds) l.length = true) (he : (ballS (absO os, ds) l).2.1 = 0) (her : ¬ err = 0) (hc : ScCalls newF feedF endF atF) {x : SCD × TokD} (hx : atF sc = some x) :
    Calls Tryd.prog 28 #[⟪R, 0⟫, .slice A l.length ca, .int .i64 err] w fun e w' => ∃ vo' os' v, e = .returned v ∧ OwnL (fun b => M b ∨ Foot vo' (.slice none 0 0) os' b) 34 w' v (ballS (absO os, ds) l).1.2 ∧ ROk M w' R B cR cB x.1 vo' (.slice none 0 0) os' [] (err, x.2.2.2.1) en ∧ ROk (fun b => M b ∨ v.ownBlock = some b) w' R B cR cB x.1 vo' (.slice none 0 0) os' [] (err, x.2.2.2.1) en ∧ absO os' = (ballS (absO os, ds) l).1.1 ∧ Chg (fun b => b = R ∨ b = B ∨ Foot vo vd os b) w w' ∧ ∀ b, b < w.heap.size → (Foot vo' (.slice none 0 0) os' b ∨ v.ownBlock = some b) → Foot vo vd os b := by
  refine calls_of_wp Tryd.func28 rfl ?_
  have hfr : Fr [] 47 [(0, ⟪R, 0⟫), (1, .slice A l.length ca), (2, .int .i64 err)] { tmps := #[⟪R, 0⟫, .slice A l.length ca, .int .i64 err] ++ Array.replicate (47 - 3) undef, defers := [] } := fr_entry (args := #[⟪R, 0⟫, .slice A l.length ca, .int .i64 err]) (by simp) (fun t ht => by
    rcases t with _ | _ | _ | t
    · exact ⟨by simp, rfl⟩
    · exact ⟨by simp, rfl⟩
    · exact ⟨by simp, rfl⟩
    · exact absurd ht (by simp [hasK]))
  change Code.wp _ _ _ { tmps := #[⟪R, 0⟫, .slice A l.length ca, .int .i64 err] ++ Array.replicate (47 - 3) undef, defers := [] } _
  generalize ({ tmps := #[⟪R, 0⟫, .slice A l.length ca, .int .i64 err] ++ Array.replicate (47 - 3) undef, defers := [] } : Act) = a at hfr ⊢
  refine wp_seq (region_rest sxMix fun w1 _ hb1 => ?_)
  refine rest_reads (q := 1) (nl := [(6, .slice none 0 0)]) κ κ hfr rfl (.s rfl (δ ru_assign rfl rfl) .z) (fun a hfr1 => ?_)
  refine rest_end κ ?_
  refine wp_seq (region_rest sxMix fun w2 _ hb2 => ?_)
  have hb02 : Below w.heap.size w w2 := hb1.trans (hb2.mono hb1.size)
  have hP2 := h.below hb02
  have hA2 : 0 < l.length → ∃ a, A = some a ∧ a.block < w2.heap.size ∧ ¬ (M a.block ∨ Foot vo vd os a.block) ∧ ∀ i t, l[i]? = some t → AtA w2 (a.add (i * 6)) (tokC t) := fun h0 => by
    obtain ⟨a, q1, q2, q3, q4⟩ := hA h0
    exact ⟨a, q1, Nat.lt_of_lt_of_le q2 hb02.size, q3, fun i t hi => (q4 i t hi).of_heap (by rw [block_add]; exact hb02.block _ q2)⟩
  refine rest_reads (q := 5) (nl := [(8, ⟪R, 0⟫), (9, ⟪R, 0⟫), (10, ⟪R, 0⟫), (11, ⟪R, 0 + 1⟫), (12, (.slice A l.length ca))]) κ κ hfr1 rfl (.s rfl (δ ru_move rfl rfl)
    (.s rfl (δ ru_move rfl rfl)
    (.s rfl (δ ru_nil rfl rfl)
    (.s rfl (δ ru_field (d := 1) rfl κ rfl)
    (.s rfl (δ ru_move rfl rfl)
    (.z)))))) (fun a hfr2 => ?_)
  have hall := all_ok (ca := ca) (k := 0 + 1) hP2.tin hP2.mR rfl hA2 (N := limN - l.length) (by have := limB_n hlim; simp only [limN] at *; omega) (limB_ok hlim)
  refine rest_call0 κ κ rfl hfr2 κ rfl (enters_of Tryd.func36 κ rfl) rfl hall ?_
  rintro w3 ⟨vo1, vd1, os1, hB3, hab, hr3, hch3, hF3⟩
  have hP3 := hP2.built hB3 hr3 hch3 hF3
  generalize hbb : ballS (absO os, ds) l = bb at *
  have hfr3 := hfr2.put (d := 13) (by decide) (.agg #[.int .i64 bb.2.1, .int .i64 bb.2.2])
  refine rest_reads (q := 8) (nl := [(14, ⟪R, 0⟫), (15, ⟪R, 0 + 3⟫)]) κ κ hfr3 rfl (.s rfl (δ ru_nil rfl rfl)
    (.s rfl (δ ru_field (d := 3) rfl κ rfl)
    (.z))) (fun a hfr4 => ?_)
  refine rest_store κ κ rfl hfr4 κ rfl (rs_store (vs := [.int .i64 bb.2.1, .int .i64 bb.2.2]) rfl κ rfl rfl rfl (by simp [Value.oneCell']) hP3.r (by simp)) ?_
  rintro w4 ⟨hr4, hg4⟩
  have hP4 := hP3.cells (wr' := bb.2) hg4 hr4 rfl hP3.b (fun _ h => h)
  have hC4 : Chg (fun b => b = R ∨ b = B ∨ Foot vo vd os b) w w4 := ((Chg.below (S := fun b => b = R ∨ b = B ∨ Foot vo vd os b) hb02).then hch3 fun b _ e => e.elim .inl fun e => .inr (.inr e)).then (Chg.grown' hg4) fun b _ e => .inl (Option.some.inj e).symm
  have hFF : ∀ b, b < w.heap.size → Foot vo1 vd1 os1 b → Foot vo vd os b := fun b hb => hF3 b (Nat.lt_of_lt_of_le hb hb02.size)
  refine rest_end κ ?_
  refine wp_seq (wp_seq (wp_region_list ?_))
  refine list_go (v := ⟪R, 0⟫) (.inl ⟨rfl, rfl⟩) (by intro _ _ e; cases e) hfr4 κ rfl (ru_move rfl rfl) (fun a hg2_0 => ?_)
  refine list_go (v := ⟪R, 0⟫) (.inl ⟨rfl, rfl⟩) (by intro _ _ e; cases e) hg2_0 κ rfl (ru_nil rfl rfl) (fun a hg2_1 => ?_)
  refine list_go (v := ⟪R, 0 + 3⟫) (.inl ⟨rfl, rfl⟩) (by intro _ _ e; cases e) hg2_1 κ rfl (ru_field (d := 3) rfl κ rfl) (fun a hg2_2 => ?_)
  refine list_go (v := ⟪R, 0 + 3 + 0⟫) (.inl ⟨rfl, rfl⟩) (by intro _ _ e; cases e) hg2_2 κ rfl (ru_field (d := 0) rfl κ rfl) (fun a hg2_3 => ?_)
  refine list_go (v := (.int .i64 (bb.2.1))) (.inl ⟨rfl, rfl⟩) (by intro _ _ e; cases e) hg2_3 κ rfl (ru_load rfl sxTyE rfl rfl (At.rd (At.row (cs := [(.int .i64 (bb.2.1))]) hP4.r rfl rfl) (by simp) fun _ _ => rfl)) (fun a hg2_4 => ?_)
  refine list_go (v := (.bool (decide (bb.2.1 = (0 : Int))))) (.inl ⟨rfl, rfl⟩) (by intro _ _ e; cases e) hg2_4 κ rfl (ru_eq rfl rfl rfl) (fun a hg2_5 => ?_)
  refine list_go (v := (.bool (decide (bb.2.1 = (0 : Int))))) (.inl ⟨rfl, rfl⟩) (by intro _ _ e; cases e) hg2_5 κ rfl (ru_move rfl rfl) (fun a hg2_6 => ?_)
  refine list_go (v := (.int .i64 (err))) (.inr ⟨_, _, _, _, rfl, rfl, rfl, by kernel_rfl, by decide, (by show Value.bool (decide _) = _; rw [decide_eq_true he]; rfl)⟩) (by intro _ _ e; cases e) hg2_6 κ rfl (ru_move rfl rfl) (fun a hg2_7 => ?_)
  refine list_go (v := (.bool (!decide (err = (0 : Int))))) (.inr ⟨_, _, _, _, rfl, rfl, rfl, by kernel_rfl, by decide, (by show Value.bool (decide _) = _; rw [decide_eq_true he]; rfl)⟩) (by intro _ _ e; cases e) hg2_7 κ rfl (ru_ne rfl rfl rfl) (fun a hg2_8 => ?_)
  refine list_go (v := (.bool (!decide (err = (0 : Int))))) (.inl ⟨rfl, rfl⟩) (by intro _ _ e; cases e) hg2_8 κ rfl (ru_pick rfl (b := true) (by show Value.bool (decide _) = _; rw [decide_eq_true he]) rfl) (fun a hg2_9 => ?_)
  refine wp_cond_true ((hg2_9.get (t := 25) rfl).trans (by show Value.bool (!decide _) = _; rw [decide_eq_false her]; rfl)) ?_
  refine region_rest sxMix fun w5 _ hb5 => ?_
  have hP5 := hP4.below hb5
  refine rest_reads (q := 6) (nl := [(26, ⟪R, 0⟫), (27, (.int .i64 (err))), (28, ⟪R, 0⟫), (29, ⟪R, 0⟫), (30, ⟪R, 0 + 0⟫), (31, ⟪B, 0⟫)]) κ κ hg2_9 rfl (.s rfl (δ ru_move rfl rfl)
    (.s rfl (δ ru_move rfl rfl)
    (.s rfl (δ ru_move rfl rfl)
    (.s rfl (δ ru_nil rfl rfl)
    (.s rfl (δ ru_field (d := 0) rfl κ rfl)
    (.s rfl (rd_of rfl rfl fun _ hw => ru_loadP rfl κ rfl (At.rd (At.row (cs := [⟪B, 0⟫]) hP5.r rfl rfl) (by simp) hw))
    (.z))))))) (fun a hfr5 => ?_)
  refine rest_call0 κ κ rfl hfr5 κ rfl (enters_of Tryd.func37 κ rfl) rfl (at_call hc hP5 hx) ?_
  rintro w5a ⟨hP5a, hc5a⟩
  have hfr6 := hfr5.put (d := 32) (by decide) (.agg (tokC x.2).toArray)
  refine rest_reads (q := 11) (nl := [(33, .int .i64 x.2.2.2.1), (34, .agg #[.int .i64 err, .int .i64 x.2.2.2.1]), (35, ⟪R, 0⟫), (36, ⟪R, 0 + 3⟫)]) κ κ hfr6 rfl (.s rfl (δ ru_fieldV (d := 2) (cs := tokC x.2) rfl κ rfl rfl) (.s rfl (δ ru_build rfl κ) (.s rfl (δ ru_nil rfl rfl) (.s rfl (δ ru_field (d := 3) rfl κ rfl) .z)))) (fun a hfr7 => ?_)
  refine rest_store κ κ rfl hfr7 κ rfl (rs_store (vs := [.int .i64 err, .int .i64 x.2.2.2.1]) rfl κ rfl rfl rfl (by simp [Value.oneCell']) hP5a.r (by simp)) ?_
  rintro w5b ⟨hr5b, hg5b⟩
  have hP5b := hP5a.cells (wr' := (err, x.2.2.2.1)) hg5b hr5b rfl hP5a.b (fun _ h => h)
  have hC5b : Chg (fun b => b = R ∨ b = B ∨ Foot vo vd os b) w w5b := ((hC4.then (Chg.below (S := fun _ => False) hb5) fun b _ e => e.elim).then hc5a fun b _ e => .inr (.inl e)).then (Chg.grown' hg5b) fun b _ e => .inl (Option.some.inj e).symm
  refine rest_end κ ?_
  refine wp_seq (region_rest sxMix fun w6 _ hb6 => ?_)
  have hP6 := hP5b.below hb6
  refine rest_reads (q := 6) (nl := [(37, ⟪R, 0⟫), (38, ⟪R, 0⟫), (39, ⟪R, 0 + 1⟫), (40, ⟪R, 0 + 1 + 1⟫), (41, vd1), (7, vd1)]) κ κ hfr7 rfl (.s rfl (δ ru_move rfl rfl)
    (.s rfl (δ ru_nil rfl rfl)
    (.s rfl (δ ru_field (d := 1) rfl κ rfl)
    (.s rfl (δ ru_field (d := 1) rfl κ rfl)
    (.s rfl (rd_of rfl rfl fun _ hw => ru_load rfl sxTyL rfl rfl (At.rd (At.row (cs := [vd1]) hP6.r rfl rfl) (by simp) hw))
    (.s rfl (δ ru_assign rfl rfl)
    (.z))))))) (fun a hfr8 => ?_)
  refine rest_end κ ?_
  refine wp_seq (region_rest sxMix fun w7 _ hb7 => ?_)
  have hP7 := hP6.below hb7
  refine rest_reads (q := 4) (nl := [(42, ⟪R, 0⟫), (43, ⟪R, 0⟫), (44, ⟪R, 0 + 1⟫), (45, ⟪R, 0 + 1 + 1⟫)]) κ κ hfr8 rfl (.s rfl (δ ru_move rfl rfl)
    (.s rfl (δ ru_nil rfl rfl)
    (.s rfl (δ ru_field (d := 1) rfl κ rfl)
    (.s rfl (δ ru_field (d := 1) rfl κ rfl)
    (.z))))) (fun a hfr9 => ?_)
  refine rest_store κ κ rfl hfr9 κ rfl (rs_store (vs := [.slice none 0 0]) rfl κ rfl rfl rfl (by simp [Value.oneCell']) hP7.r (by simp)) ?_
  rintro w8 ⟨hr8, hg8⟩
  obtain ⟨hd1, hd2, hd3⟩ := hP7.b.drain
  have hP8 := hP7.cells (wr' := (err, x.2.2.2.1)) hg8 hr8 rfl (hd1.next (M' := M) (Agree.refl _ _) fun _ _ h => .inl h) hd3
  have hS8 := hP7.cellsS (wr' := (err, x.2.2.2.1)) (M' := fun b => M b ∨ vd1.ownBlock = some b) (fun _ h => .inl h) (fun b hm => hm.imp id fun e => .inr (.inl e)) hg8 hr8 rfl hd1 hd3
  have hO8 := hd2.next (M' := fun b => M b ∨ Foot vo1 (.slice none 0 0) os1 b) (w' := w8) ⟨hg8.size, fun b hb hm => hg8.block b hb fun e => hm (.inl (by cases e; exact hP7.mR))⟩ (fun _ _ h => h)
  refine rest_end κ ?_
  refine wp_seq (region_rest sxMix fun w9 _ hb9 => ?_)
  have hP9 := hP8.below hb9
  have hS9 := hS8.below hb9
  have hO9 := hO8.next (Agree.of_below hb9) (fun _ _ h => h)
  refine rest_reads (q := 2) (nl := [(46, vd1), (6, vd1)]) κ κ hfr9 rfl (.s rfl (δ ru_move rfl rfl)
    (.s rfl (δ ru_assign rfl rfl)
    (.z))) (fun a hfr10 => ?_)
  refine rest_end κ ?_
  refine wp_ret ?_
  have hC9 : Chg (fun b => b = R ∨ b = B ∨ Foot vo vd os b) w w9 := (((hC5b.then (Chg.below (S := fun _ => False) hb6) fun b _ e => e.elim).then (Chg.below (S := fun _ => False) hb7) fun b _ e => e.elim).then (Chg.grown' hg8) fun b _ e => .inl (Option.some.inj e).symm).then (Chg.below (S := fun _ => False) hb9) fun b _ e => e.elim
  refine ⟨hfr10.1, vd1, ?_, vo1, os1, vd1, rfl, hO9, hP9, hS9, hab, hC9, fun b hb hf => hf.elim (fun hf => hFF b hb (hd3 b hf)) fun e => hFF b hb (.inr (.inl e))⟩
  have := results_tmp (P := Tryd.prog) (fn := Tryd.f28) (t := 6) κ a.tmps w9
  rw [this]
  exact congrArg (fun v => Result.ok v w9) (hfr10.get (t := 6) rfl)
end Go.Proofs.YtnjpocbcfkfphaaDoor

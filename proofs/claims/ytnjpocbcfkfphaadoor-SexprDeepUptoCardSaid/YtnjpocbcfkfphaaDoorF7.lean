import Derived.Test.YtnjpocbcfkfphaaDoorF6

/- sexpr's reader: a text is fed, and ends. -/
namespace Go.Proofs.YtnjpocbcfkfphaaDoor
open Go.RowKit Go.FK Go.Shelf
variable {M : Nat → Prop} {w w1 : World} {R B cR cB : Nat} {sc : SCD} {vo vd : Value} {os : List OpD} {ds : List NodeD} {wr : Int × Int} {en : Bool}
variable {newF : Option (List SCD)} {feedF : SCD → ByteArray → Option (SCD × List TokD × Int)} {endF : SCD → Option (SCD × List TokD × Int)} {atF : SCD → Option (SCD × TokD)}
theorem mapM_tmps {P : Program} {a : Act} {f : ResultVar → Sem Value} (hf : ∀ u, f (.tmp u) = pure (a.tmps.getD u undef)) (w : World) : ∀ ts : List Nat, ((ts.map ResultVar.tmp).mapM f).run P w = .ok (ts.map fun t => a.tmps.getD t undef) w
  | [] => rfl
  | t :: ts => by
    have ih := mapM_tmps (P := P) hf w ts
    simp only [List.map_cons, List.mapM_cons, Sem.run_bind, hf, Sem.run_pure, Result.andThen_ok, ih]
theorem post_ret_n {P : Program} {fn : Func} {a : Act} {Z : Ending → World → Prop} (ts : List Nat) {us : List Value} (h : fn.results.toList = ts.map ResultVar.tmp) (hd : a.defers = []) (hv : ts.map (fun t => a.tmps.getD t undef) = us) (hz : Z (.returned (tupleOf us)) w) : bodyPost P fn Z .ret a w :=
  ⟨hd, _, results_tuple (us := us) (fun f hf _ => by rw [h]; exact (mapM_tmps hf w ts).trans (by rw [hv])), hz⟩
theorem rest_callE {α : Type} {P : Program} {draw : Bool} {df : List Deferred} {n p : Nat} {ops : List Oper} {l : List (Nat × Value)} {Q : Exit → Act → World → Prop} {a : Act} {w : World} {o : Oper} {args : Array Value} {f : FuncId} {xs : Array Operand} {ts : Array TypeId} {val : α → Value} {Z : α → World → Prop} (hp : plainB ops = true) (hB : (!draw || soloB p ops) = true) (ho : ops[p]? = some o) (hfr : Fr df n l a) (ht : toldB l o = true) (hop : o.op = .call ⟨.value (.func f), xs, ts⟩)
    (he : ∀ args w, (callFunc f args).run P w = .ok (.enter f args) w) (ha : xs.toList.map (evL l) = args.toList) (hc : Calls P f args w fun e w' => ∃ x, e = .returned (val x) ∧ Z x w') (hQ : ∀ x w', Z x w' → FK.Rest P draw ops Q (p + 1) (a.put o.dst (val x)) w') : FK.Rest P draw ops Q p a w :=
  rest_call (Z := fun v w' => ∃ x, v = val x ∧ Z x w') hp hB ho hfr ht hop he ha (Calls.mono hc fun e w' ⟨x, h1, h2⟩ => ⟨_, h1, x, rfl, h2⟩) fun v w' h => by obtain ⟨x, rfl, h⟩ := h; exact hQ x w' h
def TookE (M : Nat → Prop) (w : World) (R B cR cB : Nat) (vo vd : Value) (os : List OpD) (r : SCD × BSt × (Int × Int) × List NodeD) (en : Bool) (v : Value) (w' : World) : Prop :=
  ∃ vo' os', OwnL (fun b => M b ∨ Foot vo' (.slice none 0 0) os' b) 34 w' v r.2.2.2 ∧ ROk M w' R B cR cB r.1 vo' (.slice none 0 0) os' [] r.2.2.1 en ∧ absO os' = r.2.1.1 ∧ r.2.1.2 = [] ∧ Chg (fun b => b = R ∨ b = B ∨ Foot vo vd os b) w w' ∧ ∀ b, b < w.heap.size → (Foot vo' (.slice none 0 0) os' b ∨ v.ownBlock = some b) → Foot vo vd os b
def Took (M : Nat → Prop) (w : World) (R B cR cB : Nat) (vo vd : Value) (os : List OpD) (r : SCD × BSt × (Int × Int) × List NodeD) (en : Bool) (v : Value) (w' : World) : Prop :=
  ∃ vo' os', OwnL (fun b => M b ∨ Foot vo' (.slice none 0 0) os' b) 34 w' v r.2.2.2 ∧ ROk M w' R B cR cB r.1 vo' (.slice none 0 0) os' [] r.2.2.1 en ∧ ROk (fun b => M b ∨ v.ownBlock = some b) w' R B cR cB r.1 vo' (.slice none 0 0) os' [] r.2.2.1 en ∧ absO os' = r.2.1.1 ∧ r.2.1.2 = [] ∧ Chg (fun b => b = R ∨ b = B ∨ Foot vo vd os b) w w' ∧ ∀ b, b < w.heap.size → (Foot vo' (.slice none 0 0) os' b ∨ v.ownBlock = some b) → Foot vo vd os b
theorem took_ok (hc : ScCalls newF feedF endF atF) {A : Option Addr} {ca : Nat} {l : List TokD} {err : Int} {r : SCD × BSt × (Int × Int) × List NodeD} (h : ROk M w R B cR cB sc vo vd os ds wr en) (hA : 0 < l.length → ∃ a, A = some a ∧ a.block < w.heap.size ∧ ¬ (M a.block ∨ Foot vo vd os a.block) ∧ ∀ i t, l[i]? = some t → AtA w (a.add (i * 6)) (tokC t)) (hr : tookF atF sc (absO os, ds) l err = some r) :
    Calls Tryd.prog 28 #[⟪R, 0⟫, .slice A l.length ca, .int .i64 err] w fun e w' => ∃ v, e = .returned v ∧ Took M w R B cR cB vo vd os r en v w' := by
  unfold tookF at hr
  cases hlim : limB (absO os, ds) l.length <;> rw [hlim] at hr
  · cases hr
  simp only [cond_true] at hr
  by_cases he : (ballS (absO os, ds) l).2.1 = 0
  · rw [decide_eq_true he] at hr
    by_cases her : err = 0
    · rw [decide_eq_true her] at hr
      cases hr
      exact Calls.mono (took_good h hA hlim he her) fun e w' ⟨vo', os', v, q1, q2, q3, q3', q4, q5, q6⟩ => ⟨v, q1, vo', os', q2, q3, q3', q4, rfl, q5, q6⟩
    · rw [decide_eq_false her] at hr
      simp only [Bool.not_false, Bool.and_true, cond_true, Option.bind_eq_some_iff] at hr
      obtain ⟨x, hx, hr⟩ := hr
      cases hr
      exact Calls.mono (took_err h hA hlim he her hc hx) fun e w' ⟨vo', os', v, q1, q2, q3, q3', q4, q5, q6⟩ => ⟨v, q1, vo', os', q2, q3, q3', q4, rfl, q5, q6⟩
  · rw [decide_eq_false he] at hr
    simp only [Bool.false_and, cond_false] at hr
    cases hr
    exact Calls.mono (took_bad h hA hlim he) fun e w' ⟨vo', os', v, q1, q2, q3, q3', q4, q5, q6⟩ => ⟨v, q1, vo', os', q2, q3, q3', q4, rfl, q5, q6⟩
theorem feed_ok (hc : ScCalls newF feedF endF atF) {s : ByteArray} {r : SCD × BSt × (Int × Int) × List NodeD} (h : ROk M w R B cR cB sc vo vd os ds wr false) (h0 : wr.1 = 0) (hr : feedR feedF atF sc (absO os, ds) s = some r) :
    Calls Tryd.prog 16 #[⟪R, 0⟫, .string s] w fun e w' => ∃ v, e = .returned (.tuple #[v, .int .i64 r.2.2.1.1]) ∧ Took M w R B cR cB vo vd os r false v w' := by
  simp only [feedR, Option.bind_eq_some_iff] at hr
  obtain ⟨x, hx, hr⟩ := hr
  refine calls_of_wp Tryd.func16 rfl ?_
  have hfr : Fr [] 40 [(0, ⟪R, 0⟫), (1, .string s)] { tmps := #[⟪R, 0⟫, .string s] ++ Array.replicate (40 - 2) undef, defers := [] } := fr_entry (args := #[⟪R, 0⟫, .string s]) (by simp) (fun t ht => by
    rcases t with _ | _ | t
    · exact ⟨by simp, rfl⟩
    · exact ⟨by simp, rfl⟩
    · exact absurd ht (by simp [hasK]))
  change Code.wp _ _ _ { tmps := #[⟪R, 0⟫, .string s] ++ Array.replicate (40 - 2) undef, defers := [] } _
  generalize ({ tmps := #[⟪R, 0⟫, .string s] ++ Array.replicate (40 - 2) undef, defers := [] } : Act) = a at hfr ⊢
  refine wp_seq (region_rest sxMix fun w1 _ hb1 => ?_)
  refine rest_reads (q := 2) (nl := [(4, (Value.slice none 0 0)), (5, (.int .i64 ((0 : Int))))]) κ κ hfr rfl (.s rfl (δ ru_assign rfl rfl)
    (.s rfl (δ ru_assign rfl rfl)
    (.z))) (fun a hfr1 => ?_)
  refine rest_end κ ?_
  refine wp_seq (wp_block (wp_seq (region_rest sxMix fun w2 _ hb2 => ?_)))
  have hP2 := (h.below hb1).below hb2
  refine rest_reads (q := 7) (nl := [(8, ⟪R, 0⟫), (9, ⟪R, 0⟫), (10, ⟪R, 0 + 3⟫), (11, ⟪R, 0 + 3 + 0⟫), (12, (.int .i64 (wr.1))), (13, (.bool (!decide (wr.1 = (0 : Int))))), (7, (.bool (!decide (wr.1 = (0 : Int)))))]) κ κ hfr1 rfl (.s rfl (δ ru_move rfl rfl)
    (.s rfl (δ ru_nil rfl rfl)
    (.s rfl (δ ru_field (d := 3) rfl κ rfl)
    (.s rfl (δ ru_field (d := 0) rfl κ rfl)
    (.s rfl (rd_of rfl rfl fun _ hw => ru_load rfl sxTyE rfl rfl (At.rd (At.row (cs := [(.int .i64 (wr.1))]) hP2.r rfl rfl) (by simp) hw))
    (.s rfl (δ ru_ne rfl rfl rfl)
    (.s rfl (δ ru_assign rfl rfl)
    (.z)))))))) (fun a hfr2 => ?_)
  refine rest_end κ ?_
  refine wp_cond_false ((hfr2.get (t := 7) rfl).trans (by show Value.bool (!decide _) = _; rw [decide_eq_true h0]; rfl)) ?_
  refine wp_seq (region_rest sxMix fun w3 _ hb3 => ?_)
  have hP3 := hP2.below hb3
  refine rest_reads (q := 5) (nl := [(20, ⟪R, 0⟫), (21, ⟪R, 0⟫), (22, ⟪R, 0 + 5⟫), (23, (.bool (false))), (19, (.bool (false)))]) κ κ hfr2 rfl (.s rfl (δ ru_move rfl rfl)
    (.s rfl (δ ru_nil rfl rfl)
    (.s rfl (δ ru_field (d := 5) rfl κ rfl)
    (.s rfl (rd_of rfl rfl fun _ hw => ru_load rfl sxTyBo rfl rfl (At.rd (At.row (cs := [(.bool (false))]) hP3.r rfl rfl) (by simp) hw))
    (.s rfl (δ ru_assign rfl rfl)
    (.z)))))) (fun a hfr3 => ?_)
  refine rest_end κ ?_
  refine wp_cond_false (hfr3.get (t := 19) rfl) (wp_skip ?_)
  simp only [Exit.inBlock, Exit.then]
  refine wp_seq (region_rest sxMix fun w4 _ hb4 => ?_)
  have hP4 := hP3.below hb4
  have hb04 : Below w.heap.size w w4 := ((hb1.trans (hb2.mono hb1.size)).trans (hb3.mono (Nat.le_trans hb1.size hb2.size))).trans (hb4.mono (Nat.le_trans (Nat.le_trans hb1.size hb2.size) hb3.size))
  refine rest_reads (q := 6) (nl := [(24, ⟪R, 0⟫), (25, ⟪R, 0⟫), (26, ⟪R, 0⟫), (27, ⟪R, 0 + 0⟫), (28, ⟪B, 0⟫), (29, (.string s))]) κ κ hfr3 rfl (.s rfl (δ ru_move rfl rfl)
    (.s rfl (δ ru_move rfl rfl)
    (.s rfl (δ ru_nil rfl rfl)
    (.s rfl (δ ru_field (d := 0) rfl κ rfl)
    (.s rfl (rd_of rfl rfl fun _ hw => ru_loadP rfl κ rfl (At.rd (At.row (cs := [⟪B, 0⟫]) hP4.r rfl rfl) (by simp) hw))
    (.s rfl (δ ru_move rfl rfl)
    (.z))))))) (fun a hfr4 => ?_)
  refine rest_callE κ κ rfl hfr4 κ rfl (enters_of Tryd.func29 κ rfl) rfl (feed_call hc hP4 hx) ?_
  rintro lv w5 ⟨hl5, hP5, hch5⟩
  have hfr5 := hfr4.put (d := 30) (by decide) (.tuple #[lv, .int .i64 x.2.2])
  refine rest_reads (q := 9) (nl := [(31, lv), (32, (.int .i64 (x.2.2)))]) κ κ hfr5 rfl (.s rfl (δ ru_extract rfl rfl rfl)
    (.s rfl (δ ru_extract rfl rfl rfl)
    (.z))) (fun a hfr6 => ?_)
  obtain ⟨A, ca, rfl, hA⟩ := toks_at hl5
  refine rest_callE κ κ rfl hfr6 κ rfl (enters_of Tryd.func28 κ rfl) rfl (took_ok hc hP5 hA hr) ?_
  rintro v w6 ⟨vo6, os6, hO6, hP6, hS6, ha6, hd6, hC6, hF6⟩
  have hfr7 := hfr6.put (d := 33) (by decide) v
  refine rest_reads (q := 11) (nl := [(6, v)]) κ κ hfr7 rfl (.s rfl (δ ru_assign rfl rfl)
    (.z)) (fun a hfr8 => ?_)
  refine rest_end κ ?_
  refine wp_seq (region_rest sxMix fun w7 _ hb7 => ?_)
  have hP7 := hP6.below hb7
  have hS7 := hS6.below hb7
  have hO7 := hO6.next (Agree.of_below hb7) (fun _ _ h => h)
  refine rest_reads (q := 8) (nl := [(34, v), (35, ⟪R, 0⟫), (36, ⟪R, 0⟫), (37, ⟪R, 0 + 3⟫), (38, ⟪R, 0 + 3 + 0⟫), (39, (.int .i64 (r.2.2.1.1))), (4, v), (5, (.int .i64 (r.2.2.1.1)))]) κ κ hfr8 rfl (.s rfl (δ ru_move rfl rfl)
    (.s rfl (δ ru_move rfl rfl)
    (.s rfl (δ ru_nil rfl rfl)
    (.s rfl (δ ru_field (d := 3) rfl κ rfl)
    (.s rfl (δ ru_field (d := 0) rfl κ rfl)
    (.s rfl (rd_of rfl rfl fun _ hw => ru_load rfl sxTyE rfl rfl (At.rd (At.row (cs := [(.int .i64 (r.2.2.1.1))]) hP7.r rfl rfl) (by simp) hw))
    (.s rfl (δ ru_assign rfl rfl)
    (.s rfl (δ ru_assign rfl rfl)
    (.z))))))))) (fun a hfr9 => ?_)
  refine rest_end κ ?_
  refine wp_ret ?_
  refine post_ret_n [4, 5] rfl hfr9.1 (us := [v, .int .i64 r.2.2.1.1]) (by
    have e1 := hfr9.get (t := 4) rfl
    have e2 := hfr9.get (t := 5) rfl
    exact List.cons_eq_cons.2 ⟨e1, List.cons_eq_cons.2 ⟨e2, rfl⟩⟩) ⟨v, rfl, vo6, os6, hO7, hP7, hS7, ha6, hd6, ?_, fun b hb hf => hF6 b (Nat.lt_of_lt_of_le (Nat.lt_of_lt_of_le hb hb04.size) (Beyond.size hch5)) hf⟩
  exact (((Chg.below (S := (fun b => b = R ∨ b = B ∨ Foot vo vd os b)) hb04).then hch5 fun b _ e => .inr (.inl e)).then hC6 fun b _ e => e).then (Chg.below (S := fun _ => False) hb7) fun b _ e => e.elim
theorem end_bad (h : ROk M w R B cR cB sc vo vd os ds wr en) (h0 : ¬ wr.1 = 0) :
    Calls Tryd.prog 17 #[⟪R, 0⟫] w fun e w' => e = .returned (.tuple #[.slice none 0 0, .int .i64 wr.1, .int .i64 wr.2]) ∧ Below w.heap.size w w' := by
  refine calls_of_wp Tryd.func17 rfl ?_
  have hfr : Fr [] 79 [(0, ⟪R, 0⟫)] { tmps := #[⟪R, 0⟫] ++ Array.replicate (79 - 1) undef, defers := [] } := fr_entry (args := #[⟪R, 0⟫]) (by simp) (fun t ht => by
    rcases t with _ | t
    · exact ⟨by simp, rfl⟩
    · exact absurd ht (by simp [hasK]))
  change Code.wp _ _ _ { tmps := #[⟪R, 0⟫] ++ Array.replicate (79 - 1) undef, defers := [] } _
  generalize ({ tmps := #[⟪R, 0⟫] ++ Array.replicate (79 - 1) undef, defers := [] } : Act) = a at hfr ⊢
  refine wp_seq (region_rest sxMix fun w1 _ hb1 => ?_)
  refine rest_reads (q := 3) (nl := [(2, (Value.slice none 0 0)), (3, (.int .i64 ((0 : Int)))), (4, (.int .i64 ((0 : Int))))]) κ κ hfr rfl (.s rfl (δ ru_assign rfl rfl)
    (.s rfl (δ ru_assign rfl rfl)
    (.s rfl (δ ru_assign rfl rfl)
    (.z)))) (fun a hfr1 => ?_)
  refine rest_end κ ?_
  have hP1 := h.below hb1
  refine wp_seq (wp_seq (wp_region_list ?_))
  refine list_go (v := ⟪R, 0⟫) (.inl ⟨rfl, rfl⟩) (by intro _ _ e; cases e) hfr1 κ rfl (ru_move rfl rfl) (fun a hg1_0 => ?_)
  refine list_go (v := ⟪R, 0⟫) (.inl ⟨rfl, rfl⟩) (by intro _ _ e; cases e) hg1_0 κ rfl (ru_nil rfl rfl) (fun a hg1_1 => ?_)
  refine list_go (v := ⟪R, 0 + 3⟫) (.inl ⟨rfl, rfl⟩) (by intro _ _ e; cases e) hg1_1 κ rfl (ru_field (d := 3) rfl κ rfl) (fun a hg1_2 => ?_)
  refine list_go (v := ⟪R, 0 + 3 + 0⟫) (.inl ⟨rfl, rfl⟩) (by intro _ _ e; cases e) hg1_2 κ rfl (ru_field (d := 0) rfl κ rfl) (fun a hg1_3 => ?_)
  refine list_go (v := (.int .i64 (wr.1))) (.inl ⟨rfl, rfl⟩) (by intro _ _ e; cases e) hg1_3 κ rfl (ru_load rfl sxTyE rfl rfl (At.rd (At.row (cs := [(.int .i64 (wr.1))]) hP1.r rfl rfl) (by simp) fun _ _ => rfl)) (fun a hg1_4 => ?_)
  refine list_go (v := (.bool (!decide (wr.1 = (0 : Int))))) (.inl ⟨rfl, rfl⟩) (by intro _ _ e; cases e) hg1_4 κ rfl (ru_ne rfl rfl rfl) (fun a hg1_5 => ?_)
  refine list_go (v := (.bool (!decide (wr.1 = (0 : Int))))) (.inl ⟨rfl, rfl⟩) (by intro _ _ e; cases e) hg1_5 κ rfl (ru_move rfl rfl) (fun a hg1_6 => ?_)
  refine list_no (.inr ⟨_, _, _, _, rfl, rfl, rfl, by kernel_rfl, by decide, (by show Value.bool (!decide _) = _; rw [decide_eq_false h0]; rfl)⟩) hg1_6 κ rfl (fun a hg1_7 => ?_)
  refine list_no (.inr ⟨_, _, _, _, rfl, rfl, rfl, by kernel_rfl, by decide, (by show Value.bool (!decide _) = _; rw [decide_eq_false h0]; rfl)⟩) hg1_7 κ rfl (fun a hg1_8 => ?_)
  refine list_no (.inr ⟨_, _, _, _, rfl, rfl, rfl, by kernel_rfl, by decide, (by show Value.bool (!decide _) = _; rw [decide_eq_false h0]; rfl)⟩) hg1_8 κ rfl (fun a hg1_9 => ?_)
  refine list_no (.inr ⟨_, _, _, _, rfl, rfl, rfl, by kernel_rfl, by decide, (by show Value.bool (!decide _) = _; rw [decide_eq_false h0]; rfl)⟩) hg1_9 κ rfl (fun a hg1_10 => ?_)
  refine list_go (v := (.bool (true))) (.inl ⟨rfl, rfl⟩) (by intro _ _ e; cases e) hg1_10 κ rfl (ru_pick rfl (b := true) (by show Value.bool (!decide _) = _; rw [decide_eq_false h0]; rfl) rfl) (fun a hg1_11 => ?_)
  refine wp_cond_true (hg1_11.get (t := 17) rfl) ?_
  refine wp_seq (region_rest sxMix fun w2 _ hb2 => ?_)
  have hP2 := hP1.below hb2
  refine rest_reads (q := 13) (nl := [(18, ⟪R, 0⟫), (19, ⟪R, 0⟫), (20, ⟪R, 0 + 3⟫), (21, ⟪R, 0 + 3 + 0⟫), (22, (.int .i64 (wr.1))), (23, ⟪R, 0⟫), (24, ⟪R, 0⟫), (25, ⟪R, 0 + 3⟫), (26, ⟪R, 0 + 3 + 1⟫), (27, (.int .i64 (wr.2))), (2, (Value.slice none 0 0)), (3, (.int .i64 (wr.1))), (4, (.int .i64 (wr.2)))]) κ κ hg1_11 rfl (.s rfl (δ ru_move rfl rfl)
    (.s rfl (δ ru_nil rfl rfl)
    (.s rfl (δ ru_field (d := 3) rfl κ rfl)
    (.s rfl (δ ru_field (d := 0) rfl κ rfl)
    (.s rfl (rd_of rfl rfl fun _ hw => ru_load rfl sxTyE rfl rfl (At.rd (At.row (cs := [(.int .i64 (wr.1))]) hP2.r rfl rfl) (by simp) hw))
    (.s rfl (δ ru_move rfl rfl)
    (.s rfl (δ ru_nil rfl rfl)
    (.s rfl (δ ru_field (d := 3) rfl κ rfl)
    (.s rfl (δ ru_field (d := 1) rfl κ rfl)
    (.s rfl (rd_of rfl rfl fun _ hw => ru_load rfl sxTyI rfl rfl (At.rd (At.row (cs := [(.int .i64 (wr.2))]) hP2.r rfl rfl) (by simp) hw))
    (.s rfl (δ ru_assign rfl rfl)
    (.s rfl (δ ru_assign rfl rfl)
    (.s rfl (δ ru_assign rfl rfl)
    (.z)))))))))))))) (fun a hfr2 => ?_)
  refine rest_end κ ?_
  refine wp_ret ?_
  simp only [Exit.then]
  refine post_ret_n [2, 3, 4] rfl hfr2.1 (us := [.slice none 0 0, .int .i64 wr.1, .int .i64 wr.2]) (by
    have e1 := hfr2.get (t := 2) rfl
    have e2 := hfr2.get (t := 3) rfl
    have e3 := hfr2.get (t := 4) rfl
    exact List.cons_eq_cons.2 ⟨e1, List.cons_eq_cons.2 ⟨e2, List.cons_eq_cons.2 ⟨e3, rfl⟩⟩⟩) ⟨rfl, hb1.trans (hb2.mono hb1.size)⟩
theorem end_ok (hc : ScCalls newF feedF endF atF) {r : SCD × BSt × (Int × Int) × List NodeD} (h : ROk M w R B cR cB sc vo vd os ds wr false) (h0 : wr.1 = 0) (hr : endR endF atF sc (absO os, ds) = some r) :
    Calls Tryd.prog 17 #[⟪R, 0⟫] w fun e w' => ∃ v, e = .returned (.tuple #[v, .int .i64 r.2.2.1.1, .int .i64 r.2.2.1.2]) ∧ TookE M w R B cR cB vo vd os r true v w' := by
  simp only [endR, Option.bind_eq_some_iff] at hr
  obtain ⟨x, hx, y, hy, hr⟩ := hr
  refine calls_of_wp Tryd.func17 rfl ?_
  have hfr : Fr [] 79 [(0, ⟪R, 0⟫)] { tmps := #[⟪R, 0⟫] ++ Array.replicate (79 - 1) undef, defers := [] } := fr_entry (args := #[⟪R, 0⟫]) (by simp) (fun t ht => by
    rcases t with _ | t
    · exact ⟨by simp, rfl⟩
    · exact absurd ht (by simp [hasK]))
  change Code.wp _ _ _ { tmps := #[⟪R, 0⟫] ++ Array.replicate (79 - 1) undef, defers := [] } _
  generalize ({ tmps := #[⟪R, 0⟫] ++ Array.replicate (79 - 1) undef, defers := [] } : Act) = a at hfr ⊢
  refine wp_seq (region_rest sxMix fun w1 _ hb1 => ?_)
  refine rest_reads (q := 3) (nl := [(2, (Value.slice none 0 0)), (3, (.int .i64 ((0 : Int)))), (4, (.int .i64 ((0 : Int))))]) κ κ hfr rfl (.s rfl (δ ru_assign rfl rfl)
    (.s rfl (δ ru_assign rfl rfl)
    (.s rfl (δ ru_assign rfl rfl)
    (.z)))) (fun a hfr1 => ?_)
  refine rest_end κ ?_
  have hP1 := h.below hb1
  refine wp_seq (wp_seq (wp_region_list ?_))
  refine list_go (v := ⟪R, 0⟫) (.inl ⟨rfl, rfl⟩) (by intro _ _ e; cases e) hfr1 κ rfl (ru_move rfl rfl) (fun a hg1_0 => ?_)
  refine list_go (v := ⟪R, 0⟫) (.inl ⟨rfl, rfl⟩) (by intro _ _ e; cases e) hg1_0 κ rfl (ru_nil rfl rfl) (fun a hg1_1 => ?_)
  refine list_go (v := ⟪R, 0 + 3⟫) (.inl ⟨rfl, rfl⟩) (by intro _ _ e; cases e) hg1_1 κ rfl (ru_field (d := 3) rfl κ rfl) (fun a hg1_2 => ?_)
  refine list_go (v := ⟪R, 0 + 3 + 0⟫) (.inl ⟨rfl, rfl⟩) (by intro _ _ e; cases e) hg1_2 κ rfl (ru_field (d := 0) rfl κ rfl) (fun a hg1_3 => ?_)
  refine list_go (v := (.int .i64 (wr.1))) (.inl ⟨rfl, rfl⟩) (by intro _ _ e; cases e) hg1_3 κ rfl (ru_load rfl sxTyE rfl rfl (At.rd (At.row (cs := [(.int .i64 (wr.1))]) hP1.r rfl rfl) (by simp) fun _ _ => rfl)) (fun a hg1_4 => ?_)
  refine list_go (v := (.bool (!decide (wr.1 = (0 : Int))))) (.inl ⟨rfl, rfl⟩) (by intro _ _ e; cases e) hg1_4 κ rfl (ru_ne rfl rfl rfl) (fun a hg1_5 => ?_)
  refine list_go (v := (.bool (!decide (wr.1 = (0 : Int))))) (.inl ⟨rfl, rfl⟩) (by intro _ _ e; cases e) hg1_5 κ rfl (ru_move rfl rfl) (fun a hg1_6 => ?_)
  refine list_go (v := ⟪R, 0⟫) (.inr ⟨_, _, _, _, rfl, rfl, rfl, by kernel_rfl, by decide, (by show Value.bool (!decide _) = _; rw [decide_eq_true h0]; rfl)⟩) (by intro _ _ e; cases e) hg1_6 κ rfl (ru_move rfl rfl) (fun a hg1_7 => ?_)
  refine list_go (v := ⟪R, 0⟫) (.inr ⟨_, _, _, _, rfl, rfl, rfl, by kernel_rfl, by decide, (by show Value.bool (!decide _) = _; rw [decide_eq_true h0]; rfl)⟩) (by intro _ _ e; cases e) hg1_7 κ rfl (ru_nil rfl rfl) (fun a hg1_8 => ?_)
  refine list_go (v := ⟪R, 0 + 5⟫) (.inr ⟨_, _, _, _, rfl, rfl, rfl, by kernel_rfl, by decide, (by show Value.bool (!decide _) = _; rw [decide_eq_true h0]; rfl)⟩) (by intro _ _ e; cases e) hg1_8 κ rfl (ru_field (d := 5) rfl κ rfl) (fun a hg1_9 => ?_)
  refine list_go (v := (.bool (false))) (.inr ⟨_, _, _, _, rfl, rfl, rfl, by kernel_rfl, by decide, (by show Value.bool (!decide _) = _; rw [decide_eq_true h0]; rfl)⟩) (by intro _ _ e; cases e) hg1_9 κ rfl (ru_load rfl sxTyBo rfl rfl (At.rd (At.row (cs := [(.bool (false))]) hP1.r rfl rfl) (by simp) fun _ _ => rfl)) (fun a hg1_10 => ?_)
  refine list_go (v := (.bool (false))) (.inl ⟨rfl, rfl⟩) (by intro _ _ e; cases e) hg1_10 κ rfl (ru_pick rfl (b := false) (by show Value.bool (!decide _) = _; rw [decide_eq_true h0]; rfl) rfl) (fun a hg1_11 => ?_)
  refine wp_cond_false (hg1_11.get (t := 17) rfl) (wp_skip ?_)
  refine wp_seq (region_rest sxMix fun w2 _ hb2 => ?_)
  have hP2 := hP1.below hb2
  refine rest_reads (q := 3) (nl := [(28, ⟪R, 0⟫), (29, ⟪R, 0⟫), (30, ⟪R, 0 + 5⟫)]) κ κ hg1_11 rfl (.s rfl (δ ru_move rfl rfl)
    (.s rfl (δ ru_nil rfl rfl)
    (.s rfl (δ ru_field (d := 5) rfl κ rfl)
    (.z)))) (fun a hfr2 => ?_)
  refine rest_store κ κ rfl hfr2 κ rfl (rs_store (vs := [.bool true]) rfl κ rfl rfl rfl (by simp [Value.oneCell']) hP2.r (by simp)) ?_
  rintro w3 ⟨hr3, hg3⟩
  have hP3 := hP2.cells (wr' := wr) (en' := true) hg3 hr3 rfl hP2.b (fun _ h => h)
  refine rest_end κ ?_
  refine wp_seq (region_rest sxMix fun w4 _ hb4 => ?_)
  have hP4 := hP3.below hb4
  have hC4 : Chg (fun b => b = R ∨ b = B ∨ Foot vo vd os b) w w4 := ((Chg.below (S := (fun b => b = R ∨ b = B ∨ Foot vo vd os b)) (hb1.trans (hb2.mono hb1.size))).then (Chg.grown' hg3) fun b _ e => .inl (Option.some.inj e).symm).then (Chg.below (S := fun _ => False) hb4) fun b _ e => e.elim
  refine rest_reads (q := 5) (nl := [(31, ⟪R, 0⟫), (32, ⟪R, 0⟫), (33, ⟪R, 0⟫), (34, ⟪R, 0 + 0⟫), (35, ⟪B, 0⟫)]) κ κ hfr2 rfl (.s rfl (δ ru_move rfl rfl)
    (.s rfl (δ ru_move rfl rfl)
    (.s rfl (δ ru_nil rfl rfl)
    (.s rfl (δ ru_field (d := 0) rfl κ rfl)
    (.s rfl (rd_of rfl rfl fun _ hw => ru_loadP rfl κ rfl (At.rd (At.row (cs := [⟪B, 0⟫]) hP4.r rfl rfl) (by simp) hw))
    (.z)))))) (fun a hfr4 => ?_)
  refine rest_callE κ κ rfl hfr4 κ rfl (enters_of Tryd.func30 κ rfl) rfl (end_call hc hP4 hx) ?_
  rintro lv w5 ⟨hl5, hP5, hch5⟩
  have hfr5 := hfr4.put (d := 36) (by decide) (.tuple #[lv, .int .i64 x.2.2])
  refine rest_reads (q := 8) (nl := [(37, lv), (38, (.int .i64 (x.2.2)))]) κ κ hfr5 rfl (.s rfl (δ ru_extract rfl rfl rfl)
    (.s rfl (δ ru_extract rfl rfl rfl)
    (.z))) (fun a hfr6 => ?_)
  obtain ⟨A, ca, rfl, hA⟩ := toks_at hl5
  refine rest_callE κ κ rfl hfr6 κ rfl (enters_of Tryd.func28 κ rfl) rfl (took_ok hc hP5 hA hy) ?_
  rintro v w6 ⟨vo6, os6, hO6, hP6, _, ha6, hd6, hC6, hF6⟩
  have hfr7 := hfr6.put (d := 39) (by decide) v
  have hC46 : Chg (fun b => b = R ∨ b = B ∨ Foot vo vd os b) w w6 := (hC4.then hch5 fun b _ e => .inr (.inl e)).then hC6 fun b _ e => e
  have hFF : ∀ b, b < w.heap.size → (Foot vo6 (.slice none 0 0) os6 b ∨ v.ownBlock = some b) → Foot vo vd os b := fun b hb hf => hF6 b (Nat.lt_of_lt_of_le hb (Nat.le_trans (Beyond.size hC4) (Beyond.size hch5))) hf
  refine rest_reads (q := 10) (nl := [(5, v)]) κ κ hfr7 rfl (.s rfl (δ ru_assign rfl rfl)
    (.z)) (fun a hfr8 => ?_)
  refine rest_end κ ?_
  refine wp_seq (wp_seq (wp_region_list ?_))
  by_cases he : y.2.2.1.1 = 0
  · rcases os6 with _ | ⟨o0, os7⟩
    · obtain ⟨A6, c6, rfl⟩ := own_slice hP6.b.o
      have hz : y.2.1.1.length = 0 := by rw [← ha6]; rfl
      rw [decide_eq_true he, decide_eq_true hz] at hr
      simp only [Bool.not_true, Bool.and_false, cond_false] at hr
      obtain rfl : y = r := Option.some.inj hr
      refine list_go (v := ⟪R, 0⟫) (.inl ⟨rfl, rfl⟩) (by intro _ _ e; cases e) hfr8 κ rfl (ru_move rfl rfl) (fun a hg5_0 => ?_)
      refine list_go (v := ⟪R, 0⟫) (.inl ⟨rfl, rfl⟩) (by intro _ _ e; cases e) hg5_0 κ rfl (ru_nil rfl rfl) (fun a hg5_1 => ?_)
      refine list_go (v := ⟪R, 0 + 3⟫) (.inl ⟨rfl, rfl⟩) (by intro _ _ e; cases e) hg5_1 κ rfl (ru_field (d := 3) rfl κ rfl) (fun a hg5_2 => ?_)
      refine list_go (v := ⟪R, 0 + 3 + 0⟫) (.inl ⟨rfl, rfl⟩) (by intro _ _ e; cases e) hg5_2 κ rfl (ru_field (d := 0) rfl κ rfl) (fun a hg5_3 => ?_)
      refine list_go (v := (.int .i64 (y.2.2.1.1))) (.inl ⟨rfl, rfl⟩) (by intro _ _ e; cases e) hg5_3 κ rfl (ru_load rfl sxTyE rfl rfl (At.rd (At.row (cs := [(.int .i64 (y.2.2.1.1))]) hP6.r rfl rfl) (by simp) fun _ _ => rfl)) (fun a hg5_4 => ?_)
      refine list_go (v := (.bool (decide (y.2.2.1.1 = (0 : Int))))) (.inl ⟨rfl, rfl⟩) (by intro _ _ e; cases e) hg5_4 κ rfl (ru_eq rfl rfl rfl) (fun a hg5_5 => ?_)
      refine list_go (v := (.bool (decide (y.2.2.1.1 = (0 : Int))))) (.inl ⟨rfl, rfl⟩) (by intro _ _ e; cases e) hg5_5 κ rfl (ru_move rfl rfl) (fun a hg5_6 => ?_)
      refine list_go (v := ⟪R, 0⟫) (.inr ⟨_, _, _, _, rfl, rfl, rfl, by kernel_rfl, by decide, (by show Value.bool (decide _) = _; rw [decide_eq_true he]; rfl)⟩) (by intro _ _ e; cases e) hg5_6 κ rfl (ru_move rfl rfl) (fun a hg5_7 => ?_)
      refine list_go (v := ⟪R, 0⟫) (.inr ⟨_, _, _, _, rfl, rfl, rfl, by kernel_rfl, by decide, (by show Value.bool (decide _) = _; rw [decide_eq_true he]; rfl)⟩) (by intro _ _ e; cases e) hg5_7 κ rfl (ru_nil rfl rfl) (fun a hg5_8 => ?_)
      refine list_go (v := ⟪R, 0 + 1⟫) (.inr ⟨_, _, _, _, rfl, rfl, rfl, by kernel_rfl, by decide, (by show Value.bool (decide _) = _; rw [decide_eq_true he]; rfl)⟩) (by intro _ _ e; cases e) hg5_8 κ rfl (ru_field (d := 1) rfl κ rfl) (fun a hg5_9 => ?_)
      refine list_go (v := ⟪R, 0 + 1 + 0⟫) (.inr ⟨_, _, _, _, rfl, rfl, rfl, by kernel_rfl, by decide, (by show Value.bool (decide _) = _; rw [decide_eq_true he]; rfl)⟩) (by intro _ _ e; cases e) hg5_9 κ rfl (ru_field (d := 0) rfl κ rfl) (fun a hg5_10 => ?_)
      refine list_go (v := (.slice A6 0 c6)) (.inr ⟨_, _, _, _, rfl, rfl, rfl, by kernel_rfl, by decide, (by show Value.bool (decide _) = _; rw [decide_eq_true he]; rfl)⟩) (by intro _ _ e; cases e) hg5_10 κ rfl (ru_load rfl sxTyL rfl rfl (At.rd (At.row (cs := [(.slice A6 0 c6)]) hP6.r rfl rfl) (by simp) fun _ _ => rfl)) (fun a hg5_11 => ?_)
      refine list_go (v := (.int .i64 (((0 : Nat) : Int)))) (.inr ⟨_, _, _, _, rfl, rfl, rfl, by kernel_rfl, by decide, (by show Value.bool (decide _) = _; rw [decide_eq_true he]; rfl)⟩) (by intro _ _ e; cases e) hg5_11 κ rfl (ru_len rfl sxUnd rfl) (fun a hg5_12 => ?_)
      refine list_go (v := (.bool (decide (((0 : Nat) : Int) > (0 : Int))))) (.inr ⟨_, _, _, _, rfl, rfl, rfl, by kernel_rfl, by decide, (by show Value.bool (decide _) = _; rw [decide_eq_true he]; rfl)⟩) (by intro _ _ e; cases e) hg5_12 κ rfl (ru_gt rfl rfl rfl) (fun a hg5_13 => ?_)
      refine list_go (v := (.bool (decide (((0 : Nat) : Int) > (0 : Int))))) (.inl ⟨rfl, rfl⟩) (by intro _ _ e; cases e) hg5_13 κ rfl (ru_pick rfl (b := true) (by show Value.bool (decide _) = _; rw [decide_eq_true he]) rfl) (fun a hg5_14 => ?_)
      refine wp_cond_false ((hg5_14.get (t := 54) rfl).trans (by show Value.bool (decide _) = _; rw [decide_eq_false (by simp)])) (wp_skip ?_)
      refine wp_seq (region_rest sxMix fun w9 _ hb9 => ?_)
      have hP9 := hP6.below hb9
      have hO9 := hO6.next (Agree.of_below hb9) (fun _ _ h => h)
      refine rest_reads (q := 14) (nl := [(68, v), (69, ⟪R, 0⟫), (70, ⟪R, 0⟫), (71, ⟪R, 0 + 3⟫), (72, ⟪R, 0 + 3 + 0⟫), (73, (.int .i64 (y.2.2.1.1))), (74, ⟪R, 0⟫), (75, ⟪R, 0⟫), (76, ⟪R, 0 + 3⟫), (77, ⟪R, 0 + 3 + 1⟫), (78, (.int .i64 (y.2.2.1.2))), (2, v), (3, (.int .i64 (y.2.2.1.1))), (4, (.int .i64 (y.2.2.1.2)))]) κ κ hg5_14 rfl (.s rfl (δ ru_move rfl rfl)
        (.s rfl (δ ru_move rfl rfl)
        (.s rfl (δ ru_nil rfl rfl)
        (.s rfl (δ ru_field (d := 3) rfl κ rfl)
        (.s rfl (δ ru_field (d := 0) rfl κ rfl)
        (.s rfl (rd_of rfl rfl fun _ hw => ru_load rfl sxTyE rfl rfl (At.rd (At.row (cs := [(.int .i64 (y.2.2.1.1))]) hP9.r rfl rfl) (by simp) hw))
        (.s rfl (δ ru_move rfl rfl)
        (.s rfl (δ ru_nil rfl rfl)
        (.s rfl (δ ru_field (d := 3) rfl κ rfl)
        (.s rfl (δ ru_field (d := 1) rfl κ rfl)
        (.s rfl (rd_of rfl rfl fun _ hw => ru_load rfl sxTyI rfl rfl (At.rd (At.row (cs := [(.int .i64 (y.2.2.1.2))]) hP9.r rfl rfl) (by simp) hw))
        (.s rfl (δ ru_assign rfl rfl)
        (.s rfl (δ ru_assign rfl rfl)
        (.s rfl (δ ru_assign rfl rfl)
        (.z))))))))))))))) (fun a hfr9 => ?_)
      refine rest_end κ ?_
      refine wp_ret ?_
      refine post_ret_n [2, 3, 4] rfl hfr9.1 (us := [v, .int .i64 y.2.2.1.1, .int .i64 y.2.2.1.2]) (by
        have e1 := hfr9.get (t := 2) rfl
        have e2 := hfr9.get (t := 3) rfl
        have e3 := hfr9.get (t := 4) rfl
        exact List.cons_eq_cons.2 ⟨e1, List.cons_eq_cons.2 ⟨e2, List.cons_eq_cons.2 ⟨e3, rfl⟩⟩⟩) ⟨v, rfl, (.slice A6 0 c6), [], hO9, hP9, ha6, hd6, (hC46.then (Chg.below (S := fun _ => False) hb9) fun b _ e => e.elim), hFF⟩
    · obtain ⟨g6, c6, rfl⟩ := own_form hP6.b.o (by simp)
      have hz : ¬ y.2.1.1.length = 0 := by rw [← ha6]; simp [absO]
      rw [decide_eq_true he, decide_eq_false hz] at hr
      simp only [Bool.not_false, Bool.and_true, cond_true] at hr
      cases hr
      refine list_go (v := ⟪R, 0⟫) (.inl ⟨rfl, rfl⟩) (by intro _ _ e; cases e) hfr8 κ rfl (ru_move rfl rfl) (fun a hg5_0 => ?_)
      refine list_go (v := ⟪R, 0⟫) (.inl ⟨rfl, rfl⟩) (by intro _ _ e; cases e) hg5_0 κ rfl (ru_nil rfl rfl) (fun a hg5_1 => ?_)
      refine list_go (v := ⟪R, 0 + 3⟫) (.inl ⟨rfl, rfl⟩) (by intro _ _ e; cases e) hg5_1 κ rfl (ru_field (d := 3) rfl κ rfl) (fun a hg5_2 => ?_)
      refine list_go (v := ⟪R, 0 + 3 + 0⟫) (.inl ⟨rfl, rfl⟩) (by intro _ _ e; cases e) hg5_2 κ rfl (ru_field (d := 0) rfl κ rfl) (fun a hg5_3 => ?_)
      refine list_go (v := (.int .i64 (y.2.2.1.1))) (.inl ⟨rfl, rfl⟩) (by intro _ _ e; cases e) hg5_3 κ rfl (ru_load rfl sxTyE rfl rfl (At.rd (At.row (cs := [(.int .i64 (y.2.2.1.1))]) hP6.r rfl rfl) (by simp) fun _ _ => rfl)) (fun a hg5_4 => ?_)
      refine list_go (v := (.bool (decide (y.2.2.1.1 = (0 : Int))))) (.inl ⟨rfl, rfl⟩) (by intro _ _ e; cases e) hg5_4 κ rfl (ru_eq rfl rfl rfl) (fun a hg5_5 => ?_)
      refine list_go (v := (.bool (decide (y.2.2.1.1 = (0 : Int))))) (.inl ⟨rfl, rfl⟩) (by intro _ _ e; cases e) hg5_5 κ rfl (ru_move rfl rfl) (fun a hg5_6 => ?_)
      refine list_go (v := ⟪R, 0⟫) (.inr ⟨_, _, _, _, rfl, rfl, rfl, by kernel_rfl, by decide, (by show Value.bool (decide _) = _; rw [decide_eq_true he]; rfl)⟩) (by intro _ _ e; cases e) hg5_6 κ rfl (ru_move rfl rfl) (fun a hg5_7 => ?_)
      refine list_go (v := ⟪R, 0⟫) (.inr ⟨_, _, _, _, rfl, rfl, rfl, by kernel_rfl, by decide, (by show Value.bool (decide _) = _; rw [decide_eq_true he]; rfl)⟩) (by intro _ _ e; cases e) hg5_7 κ rfl (ru_nil rfl rfl) (fun a hg5_8 => ?_)
      refine list_go (v := ⟪R, 0 + 1⟫) (.inr ⟨_, _, _, _, rfl, rfl, rfl, by kernel_rfl, by decide, (by show Value.bool (decide _) = _; rw [decide_eq_true he]; rfl)⟩) (by intro _ _ e; cases e) hg5_8 κ rfl (ru_field (d := 1) rfl κ rfl) (fun a hg5_9 => ?_)
      refine list_go (v := ⟪R, 0 + 1 + 0⟫) (.inr ⟨_, _, _, _, rfl, rfl, rfl, by kernel_rfl, by decide, (by show Value.bool (decide _) = _; rw [decide_eq_true he]; rfl)⟩) (by intro _ _ e; cases e) hg5_9 κ rfl (ru_field (d := 0) rfl κ rfl) (fun a hg5_10 => ?_)
      refine list_go (v := (.slice ⌜g6⌝ (o0 :: os7).length c6)) (.inr ⟨_, _, _, _, rfl, rfl, rfl, by kernel_rfl, by decide, (by show Value.bool (decide _) = _; rw [decide_eq_true he]; rfl)⟩) (by intro _ _ e; cases e) hg5_10 κ rfl (ru_load rfl sxTyL rfl rfl (At.rd (At.row (cs := [(.slice ⌜g6⌝ (o0 :: os7).length c6)]) hP6.r rfl rfl) (by simp) fun _ _ => rfl)) (fun a hg5_11 => ?_)
      refine list_go (v := (.int .i64 ((((o0 :: os7).length : Nat) : Int)))) (.inr ⟨_, _, _, _, rfl, rfl, rfl, by kernel_rfl, by decide, (by show Value.bool (decide _) = _; rw [decide_eq_true he]; rfl)⟩) (by intro _ _ e; cases e) hg5_11 κ rfl (ru_len rfl sxUnd rfl) (fun a hg5_12 => ?_)
      refine list_go (v := (.bool (decide ((((o0 :: os7).length : Nat) : Int) > (0 : Int))))) (.inr ⟨_, _, _, _, rfl, rfl, rfl, by kernel_rfl, by decide, (by show Value.bool (decide _) = _; rw [decide_eq_true he]; rfl)⟩) (by intro _ _ e; cases e) hg5_12 κ rfl (ru_gt rfl rfl rfl) (fun a hg5_13 => ?_)
      refine list_go (v := (.bool (decide ((((o0 :: os7).length : Nat) : Int) > (0 : Int))))) (.inl ⟨rfl, rfl⟩) (by intro _ _ e; cases e) hg5_13 κ rfl (ru_pick rfl (b := true) (by show Value.bool (decide _) = _; rw [decide_eq_true he]) rfl) (fun a hg5_14 => ?_)
      refine wp_cond_true ((hg5_14.get (t := 54) rfl).trans (by show Value.bool (decide _) = _; rw [decide_eq_true (by simp)])) ?_
      refine region_rest sxMix fun w7 _ hb7 => ?_
      have hP7 := hP6.below hb7
      refine rest_reads (q := 11) (nl := [(55, ⟪R, 0⟫), (56, ⟪R, 0⟫), (57, ⟪R, 0⟫), (58, ⟪R, 0 + 1⟫), (59, ⟪R, 0 + 1 + 0⟫), (60, (.slice ⌜g6⌝ (o0 :: os7).length c6)), (61, ⟪g6, 0 + Int.toNat ((0 : Int)) * 7⟫), (62, ⟪g6, 0 + Int.toNat ((0 : Int)) * 7 + 0⟫), (63, ⟪g6, 0 + Int.toNat ((0 : Int)) * 7 + 0 + 2⟫), (64, (.int .i64 (o0.t.2.2.1))), (65, (.agg ([.int .i64 131, .int .i64 o0.t.2.2.1]).toArray))]) κ κ hg5_14 rfl (.s rfl (δ ru_move rfl rfl)
        (.s rfl (δ ru_move rfl rfl)
        (.s rfl (δ ru_nil rfl rfl)
        (.s rfl (δ ru_field (d := 1) rfl κ rfl)
        (.s rfl (δ ru_field (d := 0) rfl κ rfl)
        (.s rfl (rd_of rfl rfl fun _ hw => ru_load rfl sxTyL rfl rfl (At.rd (At.row (cs := [(.slice ⌜g6⌝ (o0 :: os7).length c6)]) hP7.r rfl rfl) (by simp) hw))
        (.s rfl (δ ru_index (sz := 7) rfl sxUnd sxSz rfl rfl (by decide) (by simp))
        (.s rfl (δ ru_field (d := 0) rfl κ rfl)
        (.s rfl (δ ru_field (d := 2) rfl κ rfl)
        (.s rfl (rd_of rfl rfl fun _ hw => ru_load rfl sxTyI rfl rfl (At.rd (At.row (cs := [.int .i64 o0.t.2.2.1]) hP7.b.o rfl rfl) (by simp) hw))
        (.s rfl (δ ru_build rfl κ)
        (.z)))))))))))) (fun a hg7 => ?_)
      refine rest_reads (q := 13) (nl := [(66, ⟪R, 0⟫), (67, ⟪R, 0 + 3⟫)]) κ κ hg7 rfl (.s rfl (δ ru_nil rfl rfl)
        (.s rfl (δ ru_field (d := 3) rfl κ rfl)
        (.z))) (fun a hg8 => ?_)
      refine rest_store κ κ rfl hg8 κ rfl (rs_store (vs := [.int .i64 131, .int .i64 o0.t.2.2.1]) rfl κ rfl rfl rfl (by simp [Value.oneCell']) hP7.r (by simp)) ?_
      rintro w8 ⟨hr8, hg8'⟩
      have hP8 := hP7.cells (wr' := (131, o0.t.2.2.1)) hg8' hr8 rfl hP7.b (fun _ h => h)
      have hO8 := (hO6.next (Agree.of_below hb7) (fun _ _ h => h)).next (M' := fun b => M b ∨ Foot (.slice ⌜g6⌝ (o0 :: os7).length c6) (.slice none 0 0) (o0 :: os7) b) (w' := w8) ⟨hg8'.size, fun b hb hm => hg8'.block b hb fun e => hm (.inl (by cases e; exact hP7.mR))⟩ (fun _ _ h => h)
      refine rest_end κ ?_
      refine wp_seq (region_rest sxMix fun w9 _ hb9 => ?_)
      have hP9 := hP8.below hb9
      have hO9 := hO8.next (Agree.of_below hb9) (fun _ _ h => h)
      have hout : outer y.2.1 = o0.t.2.2.1 := by simp [outer, ← ha6, absO]
      simp only [hout]
      refine rest_reads (q := 14) (nl := [(68, v), (69, ⟪R, 0⟫), (70, ⟪R, 0⟫), (71, ⟪R, 0 + 3⟫), (72, ⟪R, 0 + 3 + 0⟫), (73, (.int .i64 (131))), (74, ⟪R, 0⟫), (75, ⟪R, 0⟫), (76, ⟪R, 0 + 3⟫), (77, ⟪R, 0 + 3 + 1⟫), (78, (.int .i64 (o0.t.2.2.1))), (2, v), (3, (.int .i64 (131))), (4, (.int .i64 (o0.t.2.2.1)))]) κ κ hg8 rfl (.s rfl (δ ru_move rfl rfl)
        (.s rfl (δ ru_move rfl rfl)
        (.s rfl (δ ru_nil rfl rfl)
        (.s rfl (δ ru_field (d := 3) rfl κ rfl)
        (.s rfl (δ ru_field (d := 0) rfl κ rfl)
        (.s rfl (rd_of rfl rfl fun _ hw => ru_load rfl sxTyE rfl rfl (At.rd (At.row (cs := [(.int .i64 (131))]) hP9.r rfl rfl) (by simp) hw))
        (.s rfl (δ ru_move rfl rfl)
        (.s rfl (δ ru_nil rfl rfl)
        (.s rfl (δ ru_field (d := 3) rfl κ rfl)
        (.s rfl (δ ru_field (d := 1) rfl κ rfl)
        (.s rfl (rd_of rfl rfl fun _ hw => ru_load rfl sxTyI rfl rfl (At.rd (At.row (cs := [(.int .i64 (o0.t.2.2.1))]) hP9.r rfl rfl) (by simp) hw))
        (.s rfl (δ ru_assign rfl rfl)
        (.s rfl (δ ru_assign rfl rfl)
        (.s rfl (δ ru_assign rfl rfl)
        (.z))))))))))))))) (fun a hfr9 => ?_)
      refine rest_end κ ?_
      refine wp_ret ?_
      refine post_ret_n [2, 3, 4] rfl hfr9.1 (us := [v, .int .i64 131, .int .i64 o0.t.2.2.1]) (by
        have e1 := hfr9.get (t := 2) rfl
        have e2 := hfr9.get (t := 3) rfl
        have e3 := hfr9.get (t := 4) rfl
        exact List.cons_eq_cons.2 ⟨e1, List.cons_eq_cons.2 ⟨e2, List.cons_eq_cons.2 ⟨e3, rfl⟩⟩⟩) ⟨v, rfl, (.slice ⌜g6⌝ (o0 :: os7).length c6), (o0 :: os7), hO9, hP9, ha6, hd6, (((hC46.then (Chg.below (S := fun _ => False) hb7) fun b _ e => e.elim).then (Chg.grown' hg8') fun b _ e => .inl (Option.some.inj e).symm).then (Chg.below (S := fun _ => False) hb9) fun b _ e => e.elim), hFF⟩
  · rw [decide_eq_false he] at hr
    simp only [Bool.false_and, cond_false] at hr
    obtain rfl : y = r := Option.some.inj hr
    refine list_go (v := ⟪R, 0⟫) (.inl ⟨rfl, rfl⟩) (by intro _ _ e; cases e) hfr8 κ rfl (ru_move rfl rfl) (fun a hg5_0 => ?_)
    refine list_go (v := ⟪R, 0⟫) (.inl ⟨rfl, rfl⟩) (by intro _ _ e; cases e) hg5_0 κ rfl (ru_nil rfl rfl) (fun a hg5_1 => ?_)
    refine list_go (v := ⟪R, 0 + 3⟫) (.inl ⟨rfl, rfl⟩) (by intro _ _ e; cases e) hg5_1 κ rfl (ru_field (d := 3) rfl κ rfl) (fun a hg5_2 => ?_)
    refine list_go (v := ⟪R, 0 + 3 + 0⟫) (.inl ⟨rfl, rfl⟩) (by intro _ _ e; cases e) hg5_2 κ rfl (ru_field (d := 0) rfl κ rfl) (fun a hg5_3 => ?_)
    refine list_go (v := (.int .i64 (y.2.2.1.1))) (.inl ⟨rfl, rfl⟩) (by intro _ _ e; cases e) hg5_3 κ rfl (ru_load rfl sxTyE rfl rfl (At.rd (At.row (cs := [(.int .i64 (y.2.2.1.1))]) hP6.r rfl rfl) (by simp) fun _ _ => rfl)) (fun a hg5_4 => ?_)
    refine list_go (v := (.bool (decide (y.2.2.1.1 = (0 : Int))))) (.inl ⟨rfl, rfl⟩) (by intro _ _ e; cases e) hg5_4 κ rfl (ru_eq rfl rfl rfl) (fun a hg5_5 => ?_)
    refine list_go (v := (.bool (decide (y.2.2.1.1 = (0 : Int))))) (.inl ⟨rfl, rfl⟩) (by intro _ _ e; cases e) hg5_5 κ rfl (ru_move rfl rfl) (fun a hg5_6 => ?_)
    refine list_no (.inr ⟨_, _, _, _, rfl, rfl, rfl, by kernel_rfl, by decide, (by show Value.bool (decide _) = _; rw [decide_eq_false he]; rfl)⟩) hg5_6 κ rfl (fun a hg5_7 => ?_)
    refine list_no (.inr ⟨_, _, _, _, rfl, rfl, rfl, by kernel_rfl, by decide, (by show Value.bool (decide _) = _; rw [decide_eq_false he]; rfl)⟩) hg5_7 κ rfl (fun a hg5_8 => ?_)
    refine list_no (.inr ⟨_, _, _, _, rfl, rfl, rfl, by kernel_rfl, by decide, (by show Value.bool (decide _) = _; rw [decide_eq_false he]; rfl)⟩) hg5_8 κ rfl (fun a hg5_9 => ?_)
    refine list_no (.inr ⟨_, _, _, _, rfl, rfl, rfl, by kernel_rfl, by decide, (by show Value.bool (decide _) = _; rw [decide_eq_false he]; rfl)⟩) hg5_9 κ rfl (fun a hg5_10 => ?_)
    refine list_no (.inr ⟨_, _, _, _, rfl, rfl, rfl, by kernel_rfl, by decide, (by show Value.bool (decide _) = _; rw [decide_eq_false he]; rfl)⟩) hg5_10 κ rfl (fun a hg5_11 => ?_)
    refine list_no (.inr ⟨_, _, _, _, rfl, rfl, rfl, by kernel_rfl, by decide, (by show Value.bool (decide _) = _; rw [decide_eq_false he]; rfl)⟩) hg5_11 κ rfl (fun a hg5_12 => ?_)
    refine list_no (.inr ⟨_, _, _, _, rfl, rfl, rfl, by kernel_rfl, by decide, (by show Value.bool (decide _) = _; rw [decide_eq_false he]; rfl)⟩) hg5_12 κ rfl (fun a hg5_13 => ?_)
    refine list_go (v := (.bool (false))) (.inl ⟨rfl, rfl⟩) (by intro _ _ e; cases e) hg5_13 κ rfl (ru_pick rfl (b := false) (by show Value.bool (decide _) = _; rw [decide_eq_false he]) rfl) (fun a hg5_14 => ?_)
    refine wp_cond_false (hg5_14.get (t := 54) rfl) (wp_skip ?_)
    refine wp_seq (region_rest sxMix fun w9 _ hb9 => ?_)
    have hP9 := hP6.below hb9
    have hO9 := hO6.next (Agree.of_below hb9) (fun _ _ h => h)
    refine rest_reads (q := 14) (nl := [(68, v), (69, ⟪R, 0⟫), (70, ⟪R, 0⟫), (71, ⟪R, 0 + 3⟫), (72, ⟪R, 0 + 3 + 0⟫), (73, (.int .i64 (y.2.2.1.1))), (74, ⟪R, 0⟫), (75, ⟪R, 0⟫), (76, ⟪R, 0 + 3⟫), (77, ⟪R, 0 + 3 + 1⟫), (78, (.int .i64 (y.2.2.1.2))), (2, v), (3, (.int .i64 (y.2.2.1.1))), (4, (.int .i64 (y.2.2.1.2)))]) κ κ hg5_14 rfl (.s rfl (δ ru_move rfl rfl)
      (.s rfl (δ ru_move rfl rfl)
      (.s rfl (δ ru_nil rfl rfl)
      (.s rfl (δ ru_field (d := 3) rfl κ rfl)
      (.s rfl (δ ru_field (d := 0) rfl κ rfl)
      (.s rfl (rd_of rfl rfl fun _ hw => ru_load rfl sxTyE rfl rfl (At.rd (At.row (cs := [(.int .i64 (y.2.2.1.1))]) hP9.r rfl rfl) (by simp) hw))
      (.s rfl (δ ru_move rfl rfl)
      (.s rfl (δ ru_nil rfl rfl)
      (.s rfl (δ ru_field (d := 3) rfl κ rfl)
      (.s rfl (δ ru_field (d := 1) rfl κ rfl)
      (.s rfl (rd_of rfl rfl fun _ hw => ru_load rfl sxTyI rfl rfl (At.rd (At.row (cs := [(.int .i64 (y.2.2.1.2))]) hP9.r rfl rfl) (by simp) hw))
      (.s rfl (δ ru_assign rfl rfl)
      (.s rfl (δ ru_assign rfl rfl)
      (.s rfl (δ ru_assign rfl rfl)
      (.z))))))))))))))) (fun a hfr9 => ?_)
    refine rest_end κ ?_
    refine wp_ret ?_
    refine post_ret_n [2, 3, 4] rfl hfr9.1 (us := [v, .int .i64 y.2.2.1.1, .int .i64 y.2.2.1.2]) (by
      have e1 := hfr9.get (t := 2) rfl
      have e2 := hfr9.get (t := 3) rfl
      have e3 := hfr9.get (t := 4) rfl
      exact List.cons_eq_cons.2 ⟨e1, List.cons_eq_cons.2 ⟨e2, List.cons_eq_cons.2 ⟨e3, rfl⟩⟩⟩) ⟨v, rfl, vo6, os6, hO9, hP9, ha6, hd6, (hC46.then (Chg.below (S := fun _ => False) hb9) fun b _ e => e.elim), hFF⟩
end Go.Proofs.YtnjpocbcfkfphaaDoor


/- sexpr's Read. -/
namespace Go.Proofs.YtnjpocbcfkfphaaDoor
open Go.RowKit Go.FK Go.Shelf
variable {M : Nat → Prop} {w w1 : World} {R B cR cB : Nat} {sc : SCD} {vo vd : Value} {os : List OpD} {ds : List NodeD} {wr : Int × Int} {en : Bool}
variable {newF : Option (List SCD)} {feedF : SCD → ByteArray → Option (SCD × List TokD × Int)} {endF : SCD → Option (SCD × List TokD × Int)} {atF : SCD → Option (SCD × TokD)}
theorem scan_new (hc : ScCalls newF feedF endF atF) (hM : ∀ b, M b → b < w.heap.size) (hgl : Gl M w) {sc : SCD} (hn : newF = some [sc]) :
    Calls Tryd.prog 27 #[] w fun e w' => ∃ x : Nat × Nat, e = .returned ⟪x.1, 0⟫ ∧ w.heap.size ≤ x.1 ∧ x.1 < w'.heap.size ∧ ObInO (fun b => M b ∨ b = x.1) w' (.slice ⌜x.1⌝ 1 x.2) ⟨80, scT, [sc]⟩ ∧ Below w.heap.size w w' := by
  have := hc.nw () [sc] hn M w [] hM hgl trivial
  refine Calls.mono (does_calls (enters_of Tryd.func27 κ rfl) this) ?_
  rintro e w' ⟨v, row, rfl, hv, hnew, hob, hbe⟩
  obtain ⟨_, g, n, c, rfl, rfl⟩ := hv
  obtain ⟨q1, q2, xs, q3, q4⟩ := hob
  have hn1 : n = 1 := by
    rcases q3.2 with ⟨e, _⟩ | ⟨_, _, _, e, _⟩ <;> cases e
    rfl
  subst hn1
  exact ⟨(g, c), rfl, hnew g rfl, (q3.lt g rfl).2, ObIn.o ⟨q1, q2, xs, q3, q4.next (Agree.refl _ _) fun b _ hm => hm.imp id fun e => by rw [e]; rfl⟩, hbe⟩
theorem chg_none {S : Nat → Prop} {w w' : World} (h : Chg S w w') (hn : ∀ b, b < w.heap.size → ¬ S b) : Below w.heap.size w w' := ⟨Beyond.os h, Beyond.tape h, Beyond.output h, Beyond.size h, fun b hb => Chg.block h hb (hn b hb)⟩
theorem ru_app2 {P : Program} {ρ : Operand → Value} {o : Oper} {w w' : World} {T T' : TypeId} {s x : Operand} {v v2 v3 : Value} (ho : o.op = .call ⟨.builtin .append, #[s, x], #[T, T']⟩) (hs : ρ s = v) (hx : ρ x = v2) (hr : (Builtin.append_ #[T, T'] o.type #[v, v2]).run P w = .ok v3 w') : Ru P ρ o w v3 w' := by
  simp [Ru, execOp, ho, resolve, invoke, builtin, hs, hx, hr]
theorem weakG {P : Program} {f : FuncId} {ps : List PK} {rs : List Ty} {e : TypeId} {F : TD (ps.flatMap PK.ins) → Option (TD (ps.flatMap PK.outs ++ rs))} (h : ContractG P f ⟨ps, rs, some e, F⟩) : ContractG P f ⟨ps, rs, none, F⟩ := by
  intro x r hx M w vs row hM hrow hgl hin
  have key : ∀ (en : Ending) (w' : World), (∃ us o rds N, en = .returned (tupleOf us) ∧ encT (ps.flatMap PK.outs ++ rs) r = o :: rds ∧ (∀ b, N b → w.heap.size ≤ b) ∧ (∀ p ob, ioP ps = some p → p.ob o = some ob → ObInO (fun b => M b ∨ N b) w' row ob) ∧
      ResG (fun b => M b ∨ N b) N w' (some e) rds us ∧ Beyond (fun b => w.heap.size ≤ b ∨ row.ownBlock = some b) w w') → ∃ us o rds N, en = .returned (tupleOf us) ∧ encT (ps.flatMap PK.outs ++ rs) r = o :: rds ∧ (∀ b, N b → w.heap.size ≤ b) ∧ (∀ p ob, ioP ps = some p → p.ob o = some ob → ObInO (fun b => M b ∨ N b) w' row ob) ∧
      ResG (fun b => M b ∨ N b) N w' none rds us ∧ Beyond (fun b => w.heap.size ≤ b ∨ row.ownBlock = some b) w w' := by
    rintro en w' ⟨us, o, rds, N, h1, h2, h3, h4, h5, h6⟩
    have h5' : ∃ (t : Ty) (l : List t.D) (ds : List Dyn) (v : Value) (vs : List Value), rds = ⟨.list t, l⟩ :: ds ∧ us = v :: vs ∧ (∀ b, v.ownBlock = some b → N b) ∧ ObIn (fun b => M b ∨ N b) w' v ⟨e, t, l⟩ ∧ RepDs (fun b => M b ∨ N b) w' ds vs := by
      unfold ResG at h5
      split at h5
      · rename_i h0; cases h0
      · rename_i h0; cases h0; exact ⟨_, _, _, _, _, rfl, rfl, h5⟩
      · exact h5.elim
    obtain ⟨t, l, ds, v, vs, rfl, rfl, k1, ⟨k2, k3, xs, k4, k5⟩, k6⟩ := h5'
    have hw : ∀ b, (M b ∨ (N b ∧ v.ownBlock ≠ some b)) → (M b ∨ N b) := fun b hb => hb.imp id (·.1)
    refine ⟨v :: vs, o, ⟨.list t, l⟩ :: ds, fun b => N b ∧ v.ownBlock ≠ some b, h1, h2, fun b hb => h3 b hb.1, fun p ob hp ho => ?_, ⟨⟨k2, [v], RepRow.list k4 (k5.next (Agree.refl _ _) fun b _ hm => hw b hm) fun b hb hm => ?_, rfl⟩, RepDs.next (Agree.refl _ _) (fun b _ hm => hw b hm) k6⟩, h6⟩
    · obtain ⟨q1, q2, ys, q3, q4⟩ := h4 p ob hp ho
      exact ⟨q1, q2, ys, q3, q4.next (Agree.refl _ _) fun b _ hm => hw b hm⟩
    · rcases hm with hm | hm
      · have := hM b hm
        have := h3 b (k1 b hb)
        omega
      · exact hm.2 hb
  rcases h x r hx M w vs row hM hrow hgl hin with ⟨q1, q2⟩ | ⟨v, w', q1, q2⟩
  · exact .inl ⟨q1, Calls.mono q2 key⟩
  · exact .inr ⟨v, w', q1, key _ _ q2⟩
theorem new_ok (hc : ScCalls newF feedF endF atF) (hM : ∀ b, M b → b < w.heap.size) (hgl : Gl M w) {sc : SCD} (hn : newF = some [sc]) :
    Calls Tryd.prog 15 #[] w fun e w' => ∃ y : Nat × Nat × Nat, e = .returned ⟪y.1, 0⟫ ∧ w.heap.size ≤ y.1 ∧ w.heap.size ≤ y.2.1 ∧ ROk (fun b => M b ∨ b = y.1 ∨ b = y.2.1) w' y.1 y.2.1 1 y.2.2 sc (.slice none 0 0) (.slice none 0 0) [] [] (0, 0) false ∧ Below w.heap.size w w' := by
  refine calls_of_wp Tryd.func15 rfl ?_
  have hfr : Fr [] 4 [] { tmps := #[] ++ Array.replicate (4 - 0) undef, defers := [] } := ⟨rfl, by simp, fun t ht => by cases ht⟩
  change Code.wp _ _ _ { tmps := #[] ++ Array.replicate (4 - 0) undef, defers := [] } _
  generalize ({ tmps := #[] ++ Array.replicate (4 - 0) undef, defers := [] } : Act) = a at hfr ⊢
  refine wp_seq (region_rest sxMix fun w1 _ hb1 => ?_)
  refine rest_reads (q := 1) (nl := [(0, .pointer none)]) κ κ hfr rfl (.s rfl (δ ru_assign rfl rfl) .z) (fun a hfr1 => ?_)
  refine rest_end κ ?_
  refine wp_seq (region_rest sxMix fun w2 _ hb2 => ?_)
  have hb02 : Below w.heap.size w w2 := hb1.trans (hb2.mono hb1.size)
  have hM2 : ∀ b, M b → b < w2.heap.size := fun b hb => Nat.lt_of_lt_of_le (hM b hb) hb02.size
  have hgl2 := hgl.next hb02.size (fun b hb _ => hb02.block b hb) (fun _ _ h => h)
  refine rest_callE κ κ rfl hfr1 κ rfl (enters_of Tryd.func27 κ rfl) rfl (scan_new hc hM2 hgl2 hn) ?_
  rintro x w3 ⟨hx1, hx2, hob, hb3⟩
  have hfr2 := hfr1.put (d := 1) (by decide) ⟪x.1, 0⟫
  have hb03 : Below w.heap.size w w3 := hb02.trans (hb3.mono hb02.size)
  refine rest_new (q := 4) (j0 := 2) (ob := (.cells ([⟪x.1, 0⟫, .slice none 0 0, .slice none 0 0, .int .i64 0, .int .i64 0, .bool false]).toArray 63)) (nl := [(2, (.agg ([⟪x.1, 0⟫, .slice none 0 0, .slice none 0 0, .int .i64 0, .int .i64 0, .bool false]).toArray)), (3, ⟪w3.heap.size, 0⟫), (0, ⟪w3.heap.size, 0⟫)]) κ κ (by decide) hfr2 rfl (.s rfl (st_ne (by decide) (δ ru_build rfl κ))
    (.s rfl (st_eq ⟨_, ru_box rfl rfl, fun d h1 _ => by cases h1; rfl⟩)
    (.s rfl (st_ne (by decide) (δ ru_assign rfl rfl))
    (.z)))) (fun a hfr3 => ?_)
  have hR := own_box (w := w3) (e := 63) (cs := [⟪x.1, 0⟫, .slice none 0 0, .slice none 0 0, .int .i64 0, .int .i64 0, .bool false]) (n := 6) rfl
  have hb4 : Below w3.heap.size w3 (w3.alloc (.cells ([⟪x.1, 0⟫, .slice none 0 0, .slice none 0 0, .int .i64 0, .int .i64 0, .bool false]).toArray 63)) := (Below.refl _ w3).alloc (Nat.le_refl _) _
  have hs4 : w3.heap.size < (w3.alloc (.cells ([⟪x.1, 0⟫, .slice none 0 0, .slice none 0 0, .int .i64 0, .int .i64 0, .bool false]).toArray 63)).heap.size := (hR.lt _ rfl).2
  generalize hw4 : w3.alloc (.cells ([⟪x.1, 0⟫, .slice none 0 0, .slice none 0 0, .int .i64 0, .int .i64 0, .bool false]).toArray 63) = w4 at *
  refine rest_end κ ?_
  refine wp_ret ?_
  refine post_ret_n [0] rfl hfr3.1 (us := [⟪w3.heap.size, 0⟫]) (by
    have e1 := hfr3.get (t := 0) rfl
    exact List.cons_eq_cons.2 ⟨e1, rfl⟩) ⟨(w3.heap.size, x.1, x.2), rfl, hb03.size, Nat.le_trans hb02.size hx1, ?_, hb03.trans (hb4.mono hb03.size)⟩
  refine ⟨fun b hb => ?_, .inr (.inl rfl), .inr (.inr rfl), by show w3.heap.size ≠ x.1; omega, BOk.nil _ _ _, hR, ?_, ?_⟩
  · rcases hb with hb | rfl | rfl
    · exact Nat.lt_of_lt_of_le (hM b hb) (hb03.trans (hb4.mono hb03.size)).size
    · exact hs4
    · exact Nat.lt_trans hx2 hs4
  · have h2 := obIn_same hob (w' := w4) (M' := fun b => M b ∨ b = x.1) (fun b e => by have : x.1 = b := Option.some.inj e; subst this; exact hb4.block _ hx2) (Agree.of_below hb4) (fun _ _ h => h)
    obtain ⟨q1, q2, xs, q3, q4⟩ := h2
    refine ⟨q1, q2, xs, q3, q4.1, fun i y hi => ?_⟩
    have := q4.2 i y hi
    obtain ⟨c1, c2, e1, e2, c3, c4, e3, e4, c5, c6, e5, e6, c7, c8, e7, e8, e9⟩ := this
    exact ⟨c1, c2, e1, e2, c3, c4, e3, e4, c5, c6, e5, e6, c7, c8, e7, (rep_tok _ _).2 ((rep_tok _ _).1 e8), e9⟩
  · refine hgl.next (hb03.trans (hb4.mono hb03.size)).size (fun b hb _ => (hb03.trans (hb4.mono hb03.size)).block b hb) fun b hb hm => ?_
    rcases hm with (hm | rfl | rfl) | hm | hm | ⟨i, o, hi, _⟩
    · exact hm
    · exact absurd hb (Nat.not_lt_of_le hb03.size)
    · exact absurd hb (Nat.not_lt_of_le (Nat.le_trans hb02.size hx1))
    · cases hm
    · cases hm
    · simp at hi
theorem read_ok (hc : ScCalls newF feedF endF atF) {s : ByteArray} {r : List NodeD × Int × Int} (hr : readF newF feedF endF atF s = some r) (hM : ∀ b, M b → b < w.heap.size) (hgl : Gl M w) :
    Calls Tryd.prog 7 #[.string s] w fun e w' => ∃ v, e = .returned (.tuple #[v, .int .i64 r.2.1, .int .i64 r.2.2]) ∧ Rep M w' (.list nodeT) (r.1.map NodeD.un) [v] ∧ Below w.heap.size w w' := by
  simp only [readF, Option.bind_eq_some_iff] at hr
  obtain ⟨l, hn, hr⟩ := hr
  rcases l with _ | ⟨sc, _ | ⟨_, _⟩⟩
  · cases hr
  rotate_left
  · cases hr
  simp only [Option.bind_eq_some_iff] at hr
  obtain ⟨x, hx, hr⟩ := hr
  refine calls_of_wp Tryd.func7 rfl ?_
  have hfr : Fr [] 34 [(0, .string s)] { tmps := #[.string s] ++ Array.replicate (34 - 1) undef, defers := [] } := fr_entry (args := #[.string s]) (by simp) (fun t ht => by
    rcases t with _ | t
    · exact ⟨by simp, rfl⟩
    · exact absurd ht (by simp [hasK]))
  change Code.wp _ _ _ { tmps := #[.string s] ++ Array.replicate (34 - 1) undef, defers := [] } _
  generalize ({ tmps := #[.string s] ++ Array.replicate (34 - 1) undef, defers := [] } : Act) = a at hfr ⊢
  refine wp_seq (region_rest sxMix fun w1 _ hb1 => ?_)
  refine rest_reads (q := 3) (nl := [(2, (Value.slice none 0 0)), (3, (.int .i64 ((0 : Int)))), (4, (.int .i64 ((0 : Int))))]) κ κ hfr rfl (.s rfl (δ ru_assign rfl rfl)
    (.s rfl (δ ru_assign rfl rfl)
    (.s rfl (δ ru_assign rfl rfl)
    (.z)))) (fun a hfr1 => ?_)
  refine rest_end κ ?_
  refine wp_seq (region_rest sxMix fun w2 _ hb2 => ?_)
  have hb02 : Below w.heap.size w w2 := hb1.trans (hb2.mono hb1.size)
  have hM2 : ∀ b, M b → b < w2.heap.size := fun b hb => Nat.lt_of_lt_of_le (hM b hb) hb02.size
  refine rest_callE κ κ rfl hfr1 κ rfl (enters_of Tryd.func15 κ rfl) rfl (new_ok hc hM2 (hgl.below hb02) hn) ?_
  rintro ⟨R, B, cB⟩ w3 ⟨hR, hB, hP3, hb3⟩
  simp only at hR hB hP3
  have hfr2 := hfr1.put (d := 11) (by decide) ⟪R, 0⟫
  have hb03 : Below w.heap.size w w3 := hb02.trans (hb3.mono hb02.size)
  refine rest_reads (q := 2) (nl := [(5, ⟪R, 0⟫)]) κ κ hfr2 rfl (.s rfl (δ ru_assign rfl rfl)
    (.z)) (fun a hfr3 => ?_)
  refine rest_end κ ?_
  refine wp_seq (region_rest sxMix fun w4 _ hb4 => ?_)
  have hP4 := hP3.below hb4
  have hb04 : Below w.heap.size w w4 := hb03.trans (hb4.mono hb03.size)
  refine rest_reads (q := 2) (nl := [(13, ⟪R, 0⟫), (14, (.string s))]) κ κ hfr3 rfl (.s rfl (δ ru_move rfl rfl)
    (.s rfl (δ ru_move rfl rfl)
    (.z))) (fun a hfr4 => ?_)
  refine rest_callE κ κ rfl hfr4 κ rfl (enters_of Tryd.func16 κ rfl) rfl (feed_ok hc hP4 rfl hx) ?_
  rintro v w5 ⟨vo5, os5, hO5, hP5, hS5, ha5, hd5, hC5, hF5⟩
  have hfr5 := hfr4.put (d := 15) (by decide) (.tuple #[v, .int .i64 x.2.2.1.1])
  refine rest_reads (q := 8) (nl := [(12, (.tuple #[v, (.int .i64 (x.2.2.1.1))])), (16, v), (17, (.int .i64 (x.2.2.1.1))), (6, v), (7, (.int .i64 (x.2.2.1.1)))]) κ κ hfr5 rfl (.s rfl (δ ru_move rfl rfl)
    (.s rfl (δ ru_extract rfl rfl rfl)
    (.s rfl (δ ru_extract rfl rfl rfl)
    (.s rfl (δ ru_assign rfl rfl)
    (.s rfl (δ ru_assign rfl rfl)
    (.z)))))) (fun a hfr6 => ?_)
  refine rest_end κ ?_
  refine wp_seq (region_rest sxMix fun w6 _ hb6 => ?_)
  have hS6 := hS5.below hb6
  have hO6 := hO5.next (Agree.of_below hb6) (fun _ _ h => h)
  have hnew : ∀ b, b < w.heap.size → ¬ (b = R ∨ b = B ∨ Foot (.slice none 0 0) (.slice none 0 0) [] b) := by
    rintro b hb (rfl | rfl | hm | hm | ⟨i, o, hi, _⟩)
    · exact absurd hb (Nat.not_lt_of_le (Nat.le_trans hb02.size hR))
    · exact absurd hb (Nat.not_lt_of_le (Nat.le_trans hb02.size hB))
    · cases hm
    · cases hm
    · simp at hi
  have hC6 : Chg (fun b => b = R ∨ b = B ∨ Foot (.slice none 0 0) (.slice none 0 0) [] b) w w6 := ((Chg.below (S := fun b => b = R ∨ b = B ∨ Foot (.slice none 0 0) (.slice none 0 0) [] b) hb04).then hC5 fun b _ e => e).then (Chg.below (S := fun _ => False) hb6) fun b _ e => e.elim
  have hF6 : ∀ b, b < w.heap.size → ¬ (Foot vo5 (.slice none 0 0) os5 b ∨ v.ownBlock = some b) := fun b hb hf => hnew b hb (.inr (.inr (hF5 b (Nat.lt_of_lt_of_le hb hb04.size) hf)))
  refine rest_reads (q := 1) (nl := [(19, ⟪R, 0⟫)]) κ κ hfr6 rfl (.s rfl (δ ru_move rfl rfl)
    (.z)) (fun a hfr7 => ?_)
  by_cases he : x.2.2.1.1 = 0
  rotate_left
  · rw [decide_eq_false he] at hr
    simp only [Bool.not_false, cond_true] at hr
    cases hr
    refine rest_call0 κ κ rfl hfr7 κ rfl (enters_of Tryd.func17 κ rfl) rfl (end_bad hS6 he) ?_
    rintro w7 hb7
    have hfr8 := hfr7.put (d := 20) (by decide) (.tuple #[.slice none 0 0, .int .i64 x.2.2.1.1, .int .i64 x.2.2.1.2])
    refine rest_reads (q := 9) (nl := [(18, (.tuple #[(.slice none 0 0), (.int .i64 (x.2.2.1.1)), (.int .i64 (x.2.2.1.2))])), (21, (.slice none 0 0)), (22, (.int .i64 (x.2.2.1.1))), (23, (.int .i64 (x.2.2.1.2))), (8, (.slice none 0 0)), (9, (.int .i64 (x.2.2.1.1))), (10, (.int .i64 (x.2.2.1.2)))]) κ κ hfr8 rfl (.s rfl (δ ru_move rfl rfl)
      (.s rfl (δ ru_extract rfl rfl rfl)
      (.s rfl (δ ru_extract rfl rfl rfl)
      (.s rfl (δ ru_extract rfl rfl rfl)
      (.s rfl (δ ru_assign rfl rfl)
      (.s rfl (δ ru_assign rfl rfl)
      (.s rfl (δ ru_assign rfl rfl)
      (.z)))))))) (fun a hfr9 => ?_)
    refine rest_end κ ?_
    refine wp_seq (wp_seq (region_rest sxMix fun w8 _ hb8 => ?_))
    refine rest_reads (q := 2) (nl := [(24, (.int .i64 (x.2.2.1.1))), (25, (.bool (!decide (x.2.2.1.1 = (0 : Int)))))]) κ κ hfr9 rfl (.s rfl (δ ru_move rfl rfl)
      (.s rfl (δ ru_ne rfl rfl rfl)
      (.z))) (fun a hfr10 => ?_)
    refine rest_end κ ?_
    refine wp_cond_true ((hfr10.get (t := 25) rfl).trans (by show Value.bool (!decide _) = _; rw [decide_eq_false he]; rfl)) ?_
    refine wp_seq (region_rest sxMix fun w9 _ hb9 => ?_)
    refine rest_reads (q := 6) (nl := [(26, v), (27, (.int .i64 (x.2.2.1.1))), (28, (.int .i64 (x.2.2.1.2))), (2, v), (3, (.int .i64 (x.2.2.1.1))), (4, (.int .i64 (x.2.2.1.2)))]) κ κ hfr10 rfl (.s rfl (δ ru_move rfl rfl)
      (.s rfl (δ ru_move rfl rfl)
      (.s rfl (δ ru_move rfl rfl)
      (.s rfl (δ ru_assign rfl rfl)
      (.s rfl (δ ru_assign rfl rfl)
      (.s rfl (δ ru_assign rfl rfl)
      (.z))))))) (fun a hfr11 => ?_)
    refine rest_end κ ?_
    refine wp_ret ?_
    simp only [Exit.then]
    have hb69 : Below w6.heap.size w6 w9 := (hb7.trans (hb8.mono hb7.size)).trans (hb9.mono (Nat.le_trans hb7.size hb8.size))
    refine post_ret_n [2, 3, 4] rfl hfr11.1 (us := [v, .int .i64 x.2.2.1.1, .int .i64 x.2.2.1.2]) (by
      have e1 := hfr11.get (t := 2) rfl
      have e2 := hfr11.get (t := 3) rfl
      have e3 := hfr11.get (t := 4) rfl
      exact List.cons_eq_cons.2 ⟨e1, List.cons_eq_cons.2 ⟨e2, List.cons_eq_cons.2 ⟨e3, rfl⟩⟩⟩) ⟨v, rfl, ?_, ?_⟩
    · exact Rep.next (Agree.of_below hb69) (fun b _ hm => .inl (.inl hm)) _ _ _ hO6.rep
    · have hC9 := hC6.then (Chg.below (S := fun _ => False) hb69) fun b _ e => e.elim
      exact chg_none hC9 hnew
  · rw [decide_eq_true he] at hr
    simp only [Bool.not_true, cond_false, Option.bind_eq_some_iff] at hr
    obtain ⟨y, hy, hr⟩ := hr
    rw [show x.2.1 = (absO os5, []) from Prod.ext ha5.symm hd5] at hy
    cases hlim : decide (x.2.2.2.length + y.2.2.2.length ≤ limN) <;> rw [hlim] at hr
    · cases hr
    have hlim := of_decide_eq_true hlim
    simp only [cond_true] at hr
    cases hr
    refine rest_callE κ κ rfl hfr7 κ rfl (enters_of Tryd.func17 κ rfl) rfl (end_ok hc hS6 he hy) ?_
    rintro v2 w7 ⟨vo7, os7, hO7, hP7, ha7, hd7, hC7, hF7⟩
    have hfr8 := hfr7.put (d := 20) (by decide) (.tuple #[v2, .int .i64 y.2.2.1.1, .int .i64 y.2.2.1.2])
    have hv7 := hO6.next (M' := fun b => (M b ∨ b = R ∨ b = B) ∨ Foot vo5 (.slice none 0 0) os5 b) (w' := w7) ⟨Beyond.size hC7, fun b hb hm => Chg.block hC7 hb fun e => hm (e.elim (fun e => .inl (.inr (.inl e))) fun e => e.elim (fun e => .inl (.inr (.inr e))) .inr)⟩ (fun _ _ h => h)
    refine rest_reads (q := 9) (nl := [(18, (.tuple #[v2, (.int .i64 (y.2.2.1.1)), (.int .i64 (y.2.2.1.2))])), (21, v2), (22, (.int .i64 (y.2.2.1.1))), (23, (.int .i64 (y.2.2.1.2))), (8, v2), (9, (.int .i64 (y.2.2.1.1))), (10, (.int .i64 (y.2.2.1.2)))]) κ κ hfr8 rfl (.s rfl (δ ru_move rfl rfl)
      (.s rfl (δ ru_extract rfl rfl rfl)
      (.s rfl (δ ru_extract rfl rfl rfl)
      (.s rfl (δ ru_extract rfl rfl rfl)
      (.s rfl (δ ru_assign rfl rfl)
      (.s rfl (δ ru_assign rfl rfl)
      (.s rfl (δ ru_assign rfl rfl)
      (.z)))))))) (fun a hfr9 => ?_)
    refine rest_end κ ?_
    refine wp_seq (wp_seq (region_rest sxMix fun w8 _ hb8 => ?_))
    refine rest_reads (q := 2) (nl := [(24, (.int .i64 (x.2.2.1.1))), (25, (.bool (!decide (x.2.2.1.1 = (0 : Int)))))]) κ κ hfr9 rfl (.s rfl (δ ru_move rfl rfl)
      (.s rfl (δ ru_ne rfl rfl rfl)
      (.z))) (fun a hfr10 => ?_)
    refine rest_end κ ?_
    refine wp_cond_false ((hfr10.get (t := 25) rfl).trans (by show Value.bool (!decide _) = _; rw [decide_eq_true he]; rfl)) (wp_skip ?_)
    refine wp_seq (region_rest sxMix fun w9 _ hb9 => ?_)
    have hb79 : Below w7.heap.size w7 w9 := hb8.trans (hb9.mono hb8.size)
    have hv9 := hv7.next (Agree.of_below hb79) (fun _ _ h => h)
    have hO9 := hO7.next (Agree.of_below hb79) (fun _ _ h => h)
    have hC9 : Chg (fun b => b = R ∨ b = B ∨ Foot (.slice none 0 0) (.slice none 0 0) [] b) w w9 := (hC6.then hC7 fun b hb e => e.elim .inl fun e => e.elim (fun e => .inr (.inl e)) fun e => absurd (.inl e) (hF6 b hb)).then (Chg.below (S := fun _ => False) hb79) fun b _ e => e.elim
    have hw9 : w.heap.size ≤ w9.heap.size := Beyond.size hC9
    refine rest_reads (q := 2) (nl := [(29, v), (30, v2)]) κ κ hfr10 rfl (.s rfl (δ ru_move rfl rfl)
      (.s rfl (δ ru_move rfl rfl)
      (.z))) (fun a hfr11 => ?_)
    obtain ⟨zi, hi0, hi1, hi2, hi3⟩ := sxInfo3
    obtain ⟨zs, z1, z2, z3⟩ := hv9
    have z2' : RepRow (fun b => M b ∨ v.ownBlock = some b) w9 nodeT (x.2.2.2.map NodeD.un) zs := z2.next (Agree.refl _ _) fun b _ hm => hm.imp (fun hm => .inl (.inl hm)) id
    have z4 : Rep (fun b => M b ∨ v.ownBlock = some b) w9 (.list nodeT) (y.2.2.2.map NodeD.un) [v2] := Rep.next (Agree.refl _ _) (fun b _ hm => .inl (hm.imp .inl id)) _ _ _ hO9.rep
    obtain ⟨v3, w10, ys, k1, k2, k3, k4, k5⟩ := run_append_list (P := Tryd.prog) (fun _ => True) (ty := 22) sxUnd sxUnd hi0 hi1 (u := nodeT) hi2 hi3 rfl (by decide) v (x.2.2.2.map NodeD.un) (y.2.2.2.map NodeD.un) zs ⟨by rw [List.length_map]; exact z1, fun _ _ => trivial⟩ z2' ⟨rfl, [v2], z4, rfl⟩ (by simp only [List.length_map, maxLen]; simp only [limN] at hlim; omega) (by simp only [List.length_map]; simp only [limN] at hlim; omega) (fun _ _ => trivial)
    refine rest_app (Z := fun v' w' => v3 = v' ∧ w10 = w') κ κ rfl hfr11 κ rfl ⟨v3, w10, ru_app2 rfl rfl rfl k1, rfl, rfl⟩ ?_
    rintro _ _ a ⟨rfl, rfl⟩ hfr12
    refine rest_reads (q := 8) (nl := [(32, (.int .i64 (y.2.2.1.1))), (33, (.int .i64 (y.2.2.1.2))), (2, v3), (3, (.int .i64 (y.2.2.1.1))), (4, (.int .i64 (y.2.2.1.2)))]) κ κ hfr12 rfl (.s rfl (δ ru_move rfl rfl)
      (.s rfl (δ ru_move rfl rfl)
      (.s rfl (δ ru_assign rfl rfl)
      (.s rfl (δ ru_assign rfl rfl)
      (.s rfl (δ ru_assign rfl rfl)
      (.z)))))) (fun a hfr13 => ?_)
    refine rest_end κ ?_
    refine wp_ret ?_
    refine post_ret_n [2, 3, 4] rfl hfr13.1 (us := [v3, .int .i64 y.2.2.1.1, .int .i64 y.2.2.1.2]) (by
      have e1 := hfr13.get (t := 2) rfl
      have e2 := hfr13.get (t := 3) rfl
      have e3 := hfr13.get (t := 4) rfl
      exact List.cons_eq_cons.2 ⟨e1, List.cons_eq_cons.2 ⟨e2, List.cons_eq_cons.2 ⟨e3, rfl⟩⟩⟩) ⟨v3, rfl, ?_, ?_⟩
    · have hA : Agree (fun b => M b ∨ v.ownBlock = some b) w9 w10 := ⟨k4.size, fun b hb hm => k4.block b hb fun e => hm (.inr e.symm)⟩
      rw [List.map_append]
      refine RepRow.list k2.1 (k3.next hA fun b _ hm => .inl hm) fun b hb hm => ?_
      rcases k5 with e | e
      · exact z3 b (e ▸ hb) (.inl (.inl hm))
      · rw [e] at hb
        have : w9.heap.size = b := Option.some.inj hb
        have := hM b hm
        omega
    · refine chg_none (hC9.then (Chg.grown' k4) fun b hb e => absurd (.inr e) (hF6 b hb)) hnew
theorem read_contract (hc : ScCalls newF feedF endF atF) : Contract Tryd.prog 7 ⟨[.str], [.list nodeT, .int .i64, .int .i64], fun (s : ByteArray) => (readF newF feedF endF atF s).map fun r => (r.1.map NodeD.un, r.2.1, r.2.2)⟩ := by
  intro s r hr M w vs hM hgl hvs
  obtain ⟨r0, h0, rfl⟩ := Option.map_eq_some_iff.1 hr
  match vs, hvs with
  | [v], hvs =>
    obtain rfl : v = .string s := repV_str hvs.1
    refine .inl ⟨enters_of Tryd.func7 κ rfl _ _, Calls.mono (read_ok hc h0 hM hgl) ?_⟩
    rintro e w' ⟨v, rfl, hv, hb⟩
    exact ⟨[v, .int .i64 r0.2.1, .int .i64 r0.2.2], rfl, ⟨⟨rfl, [v], hv, rfl⟩, ⟨rfl, _, rfl, rfl⟩, ⟨rfl, _, rfl, rfl⟩, trivial⟩, hb⟩
end Go.Proofs.YtnjpocbcfkfphaaDoor


/- The reference's push and Build. -/
namespace Go.Proofs.YtnjpocbcfkfphaaDoor
open Go.RowKit Go.FK Go.Shelf
variable {M : Nat → Prop} {w w1 w2 w' : World} {vo vd : Value} {os : List OpD} {ds : List NodeD} {n : NodeD} {cs rs : List Value}
theorem sxTyB : TyOk Tryd.prog 45 ⟨.st (.pair (.list nodeT) (.pair (.list nodeT) (.pair (.int .i64) (.int .i64)))), 0, 0⟩ := tyB_ok κ
theorem post_ret_cell {P : Program} {fn : Func} {a : Act} {Z : Ending → World → Prop} {t : Nat} {T : TypeId} {ti : TI} {g : Nat} {cs : List Value} (h : fn.results.toList = [.cell t T]) (ht : TyOk P T ti) (hl : cs.length = ti.t.sz) (h4 : a.tmps.getD t undef = ⟪g, 0⟫) (hc : At w g 0 cs) (hd : a.defers = []) (hz : Z (.returned (ofCells ti.t cs)) w) : bodyPost P fn Z .ret a w := by
  refine ⟨hd, _, results_tuple (us := [ofCells ti.t cs]) (fun f _ hf => ?_), hz⟩
  have hl' := run_loadVar_len (P := P) (w := w) ht hl ⟨g, 0, none⟩ fun j v hj => by rw [add_lit]; exact hc j v hj
  rw [h]
  simp [List.mapM_cons, hf, h4, asAddr, hl']
theorem push_in {R Z c eR sR : Nat} (hM : ∀ q, M q → q < w.heap.size) (hb : BOk M 34 w vo vd os ds) (hn : Rep (fun q => M q ∨ Foot vo vd os q) w nodeT n.un cs) (hC : Below w.heap.size w w2) (hR : w.heap.size ≤ R) (hZ : w.heap.size ≤ Z) (hZl : Z < w2.heap.size)
    (hr : w2.ownsRow 0 eR sR (.slice ⌜R⌝ 1 c) 1 rs) : PIn (fun b => M b ∨ b = R ∨ b = Z) w2 R c eR sR rs vo vd os ds n cs := by
  have hnew : ∀ b, b < w.heap.size → (M b ∨ b = R ∨ b = Z) → M b := fun b hb hm => hm.elim id fun e => e.elim (fun e => by omega) fun e => by omega
  refine ⟨hb.next (Agree.of_below hC) hnew, fun q hq => ?_, hr, Rep.next (Agree.of_below hC) (fun b hlt hm => hm.imp (hnew b hlt) id) _ _ _ hn⟩
  rcases hq with hq | rfl | rfl
  · exact Nat.lt_of_lt_of_le (hM q hq) hC.size
  · exact (hr.lt _ rfl).2
  · exact hZl
theorem push_out {R Z : Nat} {vo' vd' : Value} {os' : List OpD} {ds' : List NodeD} (hb : BOk (fun b => M b ∨ b = R ∨ b = Z) 34 w1 vo' vd' os' ds') (hA : Agree (fun b => M b ∨ b = R ∨ b = Z) w1 w') : BOk M 34 w' vo' vd' os' ds' := hb.next hA fun _ _ h => .inl h
theorem At.rk {g k : Nat} {cs : List Value} {x : Option Nat} (h : At w g k cs) (h0 : 0 < cs.length) (hx : x ≠ some g) (hK : ∀ b, b < w.heap.size → x ≠ some b → w'.heap[b]? = w.heap[b]?) : At w' g k cs := h.of_heap (hK g (h.lt h0) hx)
theorem one4 {a b c d : Value} (h1 : a.oneCell' = true) (h2 : b.oneCell' = true) (h3 : c.oneCell' = true) (h4 : d.oneCell' = true) : ∀ u ∈ [a, b, c, d], u.oneCell' = true := by
  intro u hu
  simp only [List.mem_cons, List.not_mem_nil, or_false] at hu
  rcases hu with rfl | rfl | rfl | rfl <;> assumption
theorem ops_seg {os : List OpD} : ∀ {i : Nat} {o : OpD}, os[i]? = some o → seg (opsC os) (i * 7) 7 = opC o := by
  induction os with
  | nil => intro i o h; simp at h
  | cons p os ih =>
    intro i o h
    cases i with
    | zero =>
      simp only [List.getElem?_cons_zero, Option.some.injEq] at h
      subst h
      simp [opsC, seg, opC, tokC]
    | succ i =>
      simp only [List.getElem?_cons_succ] at h
      rw [← ih h]
      have e : (i + 1) * 7 = (opC p).length + i * 7 := by rw [opC_len]; omega
      rw [show opsC (p :: os) = opC p ++ opsC os by simp [opsC], e]
      simp [seg]
theorem push_done {cd at_ : Int} (hM : ∀ q, M q → q < w.heap.size) (hb : BOk M 34 w vo vd [] ds) (hn : Rep (fun q => M q ∨ Foot vo vd [] q) w nodeT n.un cs) (hlen : ds.length < 1099511627776) :
    Calls Tryd.prog 42 #[.agg #[vd, vo, .int .i64 cd, .int .i64 at_], .agg cs.toArray] w fun e w' => ∃ vd', e = .returned (.agg #[vd', vo, .int .i64 cd, .int .i64 at_]) ∧ BOk M 34 w' vo vd' [] (ds ++ [n]) ∧ Chg (Foot vo vd []) w w' ∧ ∀ b, b < w.heap.size → Foot vo vd' [] b → Foot vo vd [] b := by
  obtain ⟨A, co, rfl⟩ := own_slice hb.o
  obtain ⟨zs0, hz0, _⟩ := hb.d
  obtain ⟨V, cv0, rfl⟩ := own_slice hz0
  refine calls_of_wp Tryd.func42 rfl ?_
  have hfr : Fr [] 51 [(0, .agg #[(.slice V ds.length cv0), (.slice A 0 co), .int .i64 cd, .int .i64 at_]), (1, .agg cs.toArray)] { tmps := #[.agg #[(.slice V ds.length cv0), (.slice A 0 co), .int .i64 cd, .int .i64 at_], .agg cs.toArray] ++ Array.replicate (51 - 2) undef, defers := [] } := fr_entry (args := #[.agg #[(.slice V ds.length cv0), (.slice A 0 co), .int .i64 cd, .int .i64 at_], .agg cs.toArray]) (by simp) (fun t ht => by
    rcases t with _ | _ | t
    · exact ⟨by simp, rfl⟩
    · exact ⟨by simp, rfl⟩
    · exact absurd ht (by simp [hasK]))
  change Code.wp _ _ _ { tmps := #[.agg #[(.slice V ds.length cv0), (.slice A 0 co), .int .i64 cd, .int .i64 at_], .agg cs.toArray] ++ Array.replicate (51 - 2) undef, defers := [] } _
  generalize ({ tmps := #[.agg #[(.slice V ds.length cv0), (.slice A 0 co), .int .i64 cd, .int .i64 at_], .agg cs.toArray] ++ Array.replicate (51 - 2) undef, defers := [] } : Act) = a at hfr ⊢
  have hcl : cs.length = 7 := Rep.len _ _ _ hn
  have hcp : 0 < cs.length := by omega
  have hone : ∀ u ∈ cs, u.oneCell' = true := Rep.one _ _ _ hn
  refine wp_seq (region_rest sxMix fun w1 _ hb1 => ?_)
  refine rest_new (q := 1) (j0 := 0) (ob := (.cells #[(.slice V ds.length cv0), (.slice A 0 co), .int .i64 cd, .int .i64 at_] 45)) (nl := [(2, ⟪w1.heap.size, 0⟫)]) κ κ (by decide) hfr rfl (.s rfl (st_eq ⟨_, ru_box rfl rfl, fun d h1 _ => by cases h1; rfl⟩)
    (.z)) (fun a hfr0a => ?_)
  have hRa := own_box (w := w1) (e := 45) (cs := [(.slice V ds.length cv0), (.slice A 0 co), .int .i64 cd, .int .i64 at_]) (n := 4) rfl
  have hba : Below w1.heap.size w1 (w1.alloc (.cells #[(.slice V ds.length cv0), (.slice A 0 co), .int .i64 cd, .int .i64 at_] 45)) := (Below.refl _ w1).alloc (Nat.le_refl _) _
  have hsa : (w1.alloc (.cells #[(.slice V ds.length cv0), (.slice A 0 co), .int .i64 cd, .int .i64 at_] 45)).heap.size = w1.heap.size + 1 := by simp
  generalize hwa : w1.alloc (.cells #[(.slice V ds.length cv0), (.slice A 0 co), .int .i64 cd, .int .i64 at_] 45) = wa at *
  refine rest_new (q := 2) (j0 := 1) (ob := (.cells cs.toArray 34)) (nl := [(3, ⟪wa.heap.size, 0⟫)]) κ κ (by decide) hfr0a rfl (.s rfl (st_eq ⟨_, ru_box rfl rfl, fun d h1 _ => by cases h1; rfl⟩)
    (.z)) (fun a hfr0b => ?_)
  have hNb := own_box (w := wa) (e := 34) hcl
  have hRb := hRa.alloc (.cells cs.toArray 34)
  have hbb : Below wa.heap.size wa (wa.alloc (.cells cs.toArray 34)) := (Below.refl _ wa).alloc (Nat.le_refl _) _
  have hsb : (wa.alloc (.cells cs.toArray 34)).heap.size = wa.heap.size + 1 := by simp
  generalize hwb : wa.alloc (.cells cs.toArray 34) = wb at *
  refine rest_new (q := 3) (j0 := 2) (ob := (.cells ([.slice none 0 0, .slice none 0 0, .int .i64 0, .int .i64 0] : List Value).toArray 45)) (nl := [(4, ⟪wb.heap.size, 0⟫)]) κ κ (by decide) hfr0b rfl (.s rfl (st_eq ⟨_, ru_alloc rfl sxTyB, fun d h1 _ => by cases h1; rfl⟩)
    (.z)) (fun a hfr1 => ?_)
  have hZc := own_box (w := wb) (e := 45) (cs := [.slice none 0 0, .slice none 0 0, .int .i64 0, .int .i64 0]) (n := 4) rfl
  have hRc := hRb.alloc (.cells ([.slice none 0 0, .slice none 0 0, .int .i64 0, .int .i64 0] : List Value).toArray 45)
  have hNc := hNb.alloc (.cells ([.slice none 0 0, .slice none 0 0, .int .i64 0, .int .i64 0] : List Value).toArray 45)
  have hbc : Below wb.heap.size wb (wb.alloc (.cells ([.slice none 0 0, .slice none 0 0, .int .i64 0, .int .i64 0] : List Value).toArray 45)) := (Below.refl _ wb).alloc (Nat.le_refl _) _
  have hsc : (wb.alloc (.cells ([.slice none 0 0, .slice none 0 0, .int .i64 0, .int .i64 0] : List Value).toArray 45)).heap.size = wb.heap.size + 1 := by simp
  generalize hw2 : wb.alloc (.cells ([.slice none 0 0, .slice none 0 0, .int .i64 0, .int .i64 0] : List Value).toArray 45) = w2 at *
  refine rest_end κ ?_
  have hC2 : Below w.heap.size w w2 := hb1.trans ((hba.trans ((hbb.trans (hbc.mono (by omega))).mono (by omega))).mono hb1.size)
  have hw1 := hb1.size
  have hP2 := push_in hM hb hn hC2 hw1 (show w.heap.size ≤ wb.heap.size by omega) (by omega) hRc
  refine wp_seq (wp_seq (region_rest sxMix fun w3 _ hb3 => ?_))
  have hP3 := hP2.next hb3
  have hN3 := row_next hNc hb3
  have hZ3 := row_next hZc hb3
  have hC3 := hC2.trans (hb3.mono hC2.size)
  refine rest_reads (q := 4) (nl := [(6, ⟪w1.heap.size, 0 + 1⟫), (7, (.slice A 0 co)), (8, (.int .i64 (((0 : Nat) : Int)))), (9, (.bool (decide (((0 : Nat) : Int) = (0 : Int)))))]) κ κ hfr1 rfl (.s rfl (δ ru_field (d := 1) rfl κ rfl)
    (.s rfl (rd_of rfl rfl fun _ hw => ru_load rfl sxTyL rfl rfl (At.rd (At.row (cs := [(.slice A 0 co)]) hP3.r rfl rfl) (by simp) hw))
    (.s rfl (δ ru_len rfl sxUnd rfl)
    (.s rfl (δ ru_eq rfl rfl rfl)
    (.z))))) (fun a hfr2 => ?_)
  refine rest_end κ ?_
  refine wp_cond_true ((hfr2.get (t := 9) rfl).trans (by show Value.bool (decide _) = _; simp)) ?_
  refine wp_seq (region_rest sxMix fun w4 _ hb4 => ?_)
  have hP4 := hP3.next hb4
  have hN4 := row_next hN3 hb4
  have hZ4 := row_next hZ3 hb4
  have hC4 := hC3.trans (hb4.mono hC3.size)
  refine rest_new (q := 4) (j0 := 3) (ob := (.cells cs.toArray 34)) (nl := [(10, ⟪w1.heap.size, 0 + 0⟫), (11, (.slice V ds.length cv0)), (12, (.agg (cs).toArray)), (13, (.slice ⌜w4.heap.size⌝ 1 1))]) κ κ (by decide) hfr2 rfl (.s rfl (st_ne (by decide) (δ ru_field (d := 0) rfl κ rfl))
    (.s rfl (st_ne (by decide) (rd_of rfl rfl fun _ hw => ru_load rfl sxTyL rfl rfl (At.rd (At.row (cs := [(.slice V ds.length cv0)]) hP4.r rfl rfl) (by simp) hw)))
    (.s rfl (st_ne (by decide) (rd_of rfl rfl fun _ hw => ru_load rfl sxTyN hcl rfl (At.rd (At.all hN4) hcp hw)))
    (.s rfl (st_eq ⟨_, ru_bslice rfl sxUnd sxInfo rfl (by decide) (by decide) rfl (by simp [hcl]), fun d h1 _ => by cases h1; rfl⟩)
    (.z))))) (fun a hfr3 => ?_)
  obtain ⟨zs, hz, hzr⟩ := hP4.b.d
  have hS5 := own_box (w := w4) (e := 34) hcl
  have hb5 : Below w4.heap.size w4 (w4.alloc (.cells cs.toArray 34)) := (Below.refl _ w4).alloc (Nat.le_refl _) _
  have hP5 := hP4.next hb5
  have hZ5 := row_next hZ4 hb5
  have hC5 := hC4.trans (hb5.mono hC4.size)
  have hz5 := row_next hz hb5
  have hzr5 := hzr.next (Agree.of_below hb5) (fun _ _ h => h)
  generalize hw5 : w4.alloc (.cells cs.toArray 34) = w5 at *
  obtain ⟨i0, hi0, hi1, hi2, hi3⟩ := sxInfo3
  refine rest_app κ κ rfl hfr3 κ rfl (ru_append rfl sxUnd hi0 hi1 hi2 hi3 rfl (by decide) rfl rfl hz5 hcl (At.all hS5) hone (by simp only [maxLen]; omega) (by omega)) ?_
  rintro v' w6 a ⟨hv, hgr, hvb⟩ hfr4
  have hVM : ∀ b, (Value.slice V ds.length cv0).ownBlock = some b → ¬ (M b ∨ b = w1.heap.size ∨ b = wb.heap.size) := fun b e => hP5.b.m b (.inr (.inl e))
  have hr6 := hP5.r.kept hgr (.inr fun e => hVM _ e.symm (.inr (.inl rfl)))
  have hZ6 := hZ5.kept hgr (.inr fun e => hVM _ e.symm (.inr (.inr rfl)))
  have hv1 : v'.oneCell' = true := by obtain ⟨_, _, rfl⟩ := own_slice hv; rfl
  refine rest_reads (q := 6) (nl := [(15, ⟪w1.heap.size, 0 + 0⟫)]) κ κ hfr4 rfl (.s rfl (δ ru_field (d := 0) rfl κ rfl)
    (.z)) (fun a hfr5 => ?_)
  refine rest_store κ κ rfl hfr5 κ rfl (rs_store (vs := [v']) rfl κ rfl (by obtain ⟨_, _, rfl⟩ := own_slice hv; rfl) rfl (by simpa using hv1) hr6 (by simp)) ?_
  rintro w7 ⟨hr7, hg7⟩
  have hvR : v'.ownBlock ≠ some w1.heap.size := fun e => by
    rcases hvb with e' | e'
    · exact hVM _ (e' ▸ e) (.inr (.inl rfl))
    · rw [e'] at e
      have : w5.heap.size = w1.heap.size := Option.some.inj e
      have := hP5.m _ (.inr (.inl rfl)); omega
  have hv7 := hv.kept hg7 (.inr fun e => hvR e)
  have hZ7 := hZ6.kept hg7 (.inr fun e => by have : wb.heap.size = w1.heap.size := Option.some.inj e; omega)
  refine rest_end κ ?_
  have hout : Out (fun b => M b ∨ b = w1.heap.size ∨ b = wb.heap.size) (fun b => (Value.slice V ds.length cv0).ownBlock = some b) w5 w7 := ⟨Nat.le_trans hgr.size hg7.size, fun b hlt hm hx => (hg7.block b (Nat.lt_of_lt_of_le hlt hgr.size) fun e => hm (.inr (.inl (Option.some.inj e)))).trans (hgr.block b hlt fun e => hx e.symm)⟩
  have hB7 := hP5.b.push hP5.m hzr5 hP5.n hv7 hout hvb
  have hC7 : Chg (Foot (.slice A 0 co) (.slice V ds.length cv0) []) w w7 := ((Chg.below hC5).then (Chg.grown' hgr) fun b _ e => .inr (.inl e)).then (Chg.grown' hg7) fun b hlt e => by have : w1.heap.size = b := Option.some.inj e; omega
  refine wp_seq (region_rest sxMix fun w8 _ hb8 => ?_)
  have hr8 := row_next hr7 hb8
  have hZ8 := row_next hZ7 hb8
  refine rest_reads (q := 1) (nl := [(16, .agg #[v', .slice A 0 co, .int .i64 cd, .int .i64 at_])]) κ κ hfr5 rfl (.s rfl (rd_of rfl rfl fun _ hw => ru_load rfl sxTyB rfl rfl (At.rd (cs := [v', .slice A 0 co, .int .i64 cd, .int .i64 at_]) (At.all hr8) (by simp) hw)) .z) (fun a hfrZ => ?_)
  refine rest_store κ κ rfl hfrZ κ rfl (rs_store (vs := [v', .slice A 0 co, .int .i64 cd, .int .i64 at_]) rfl κ rfl rfl rfl (by exact one4 hv1 rfl rfl rfl) hZ8 (by simp)) ?_
  rintro wz ⟨hZz, hgz⟩
  refine rest_end κ ?_
  refine wp_ret ?_
  simp only [Exit.then]
  refine post_ret_cell (t := 4) rfl sxTyB rfl (hfrZ.get (t := 4) rfl) (At.all hZz) hfrZ.1 ⟨v', rfl, push_out hB7 (w' := wz) ⟨Nat.le_trans hb8.size hgz.size, fun b hlt hm => (hgz.block b (Nat.lt_of_lt_of_le hlt hb8.size) fun e => hm (.inr (.inr (Option.some.inj e)))).trans (hb8.block b hlt)⟩, ?_, foot_push hvb hC5.size⟩
  exact (hC7.then (Chg.below (S := fun _ => False) hb8) fun b _ e => e.elim).then (Chg.grown' hgz) fun b hlt e => by have : wb.heap.size = b := Option.some.inj e; omega
theorem push_kid {p : OpD} {cd at_ : Int} (hM : ∀ q, M q → q < w.heap.size) (hb : BOk M 34 w vo vd (os ++ [p]) ds) (hn : Rep (fun q => M q ∨ Foot vo vd (os ++ [p]) q) w nodeT n.un cs) (hlen : os.length < 1099511627776) (hlk : p.k.length < 1099511627776) :
    Calls Tryd.prog 42 #[.agg #[vd, vo, .int .i64 cd, .int .i64 at_], .agg cs.toArray] w fun e w' => ∃ v', e = .returned (.agg #[vd, vo, .int .i64 cd, .int .i64 at_]) ∧ BOk M 34 w' vo vd (os ++ [⟨p.t, v', p.k ++ [n]⟩]) ds ∧ Chg (Foot vo vd (os ++ [p])) w w' ∧ ∀ b, b < w.heap.size → Foot vo vd (os ++ [⟨p.t, v', p.k ++ [n]⟩]) b → Foot vo vd (os ++ [p]) b := by
  have hol : (os ++ [p]).length = os.length + 1 := by simp
  have ho := hb.o
  rw [hol] at ho
  obtain ⟨g, co, rfl⟩ := own_form ho (Nat.succ_pos _)
  obtain ⟨ys0, hy0, _⟩ := hb.k os.length p snoc_last
  obtain ⟨K, ck, hK⟩ := own_slice hy0
  obtain ⟨zs0, hz0, _⟩ := hb.d
  obtain ⟨V, cv0, rfl⟩ := own_slice hz0
  obtain ⟨pt, pv, pk⟩ := p
  simp only at hK hlk
  subst hK
  have hwr : IntKind.i64.wrap (((os.length + 1 : Nat) : Int) - (1 : Int)) = (os.length : Int) := by
    rw [show (((os.length + 1 : Nat) : Int) - (1 : Int)) = (os.length : Int) by omega]
    exact wrap_small (by omega) (by omega)
  have hof : 0 + Int.toNat (IntKind.i64.wrap (((os.length + 1 : Nat) : Int) - (1 : Int))) * 7 = os.length * 7 := by rw [hwr]; simp
  have hxl : (opsC (os ++ [(⟨pt, .slice K pk.length ck, pk⟩ : OpD)])).length = (os.length + 1) * 7 := by rw [opsC_len, hol]
  have hx1 : seg (opsC (os ++ [(⟨pt, .slice K pk.length ck, pk⟩ : OpD)])) (os.length * 7 + 6) [(Value.slice K pk.length ck)].length = [(Value.slice K pk.length ck)] := by
    rw [opsC_app, opsC_one, opC]
    have : os.length * 7 + 6 = (opsC os ++ tokC pt).length := by rw [List.length_append, opsC_len]; rfl
    rw [← List.append_assoc, this]
    simp [seg]
  refine calls_of_wp Tryd.func42 rfl ?_
  have hfr : Fr [] 51 [(0, .agg #[(.slice V ds.length cv0), (.slice ⌜g⌝ (os.length + 1) co), .int .i64 cd, .int .i64 at_]), (1, .agg cs.toArray)] { tmps := #[.agg #[(.slice V ds.length cv0), (.slice ⌜g⌝ (os.length + 1) co), .int .i64 cd, .int .i64 at_], .agg cs.toArray] ++ Array.replicate (51 - 2) undef, defers := [] } := fr_entry (args := #[.agg #[(.slice V ds.length cv0), (.slice ⌜g⌝ (os.length + 1) co), .int .i64 cd, .int .i64 at_], .agg cs.toArray]) (by simp) (fun t ht => by
    rcases t with _ | _ | t
    · exact ⟨by simp, rfl⟩
    · exact ⟨by simp, rfl⟩
    · exact absurd ht (by simp [hasK]))
  change Code.wp _ _ _ { tmps := #[.agg #[(.slice V ds.length cv0), (.slice ⌜g⌝ (os.length + 1) co), .int .i64 cd, .int .i64 at_], .agg cs.toArray] ++ Array.replicate (51 - 2) undef, defers := [] } _
  generalize ({ tmps := #[.agg #[(.slice V ds.length cv0), (.slice ⌜g⌝ (os.length + 1) co), .int .i64 cd, .int .i64 at_], .agg cs.toArray] ++ Array.replicate (51 - 2) undef, defers := [] } : Act) = a at hfr ⊢
  have hcl : cs.length = 7 := Rep.len _ _ _ hn
  have hcp : 0 < cs.length := by omega
  have hone : ∀ u ∈ cs, u.oneCell' = true := Rep.one _ _ _ hn
  refine wp_seq (region_rest sxMix fun w1 _ hb1 => ?_)
  refine rest_new (q := 1) (j0 := 0) (ob := (.cells #[(.slice V ds.length cv0), (.slice ⌜g⌝ (os.length + 1) co), .int .i64 cd, .int .i64 at_] 45)) (nl := [(2, ⟪w1.heap.size, 0⟫)]) κ κ (by decide) hfr rfl (.s rfl (st_eq ⟨_, ru_box rfl rfl, fun d h1 _ => by cases h1; rfl⟩)
    (.z)) (fun a hfr0a => ?_)
  have hRa := own_box (w := w1) (e := 45) (cs := [(.slice V ds.length cv0), (.slice ⌜g⌝ (os.length + 1) co), .int .i64 cd, .int .i64 at_]) (n := 4) rfl
  have hba : Below w1.heap.size w1 (w1.alloc (.cells #[(.slice V ds.length cv0), (.slice ⌜g⌝ (os.length + 1) co), .int .i64 cd, .int .i64 at_] 45)) := (Below.refl _ w1).alloc (Nat.le_refl _) _
  have hsa : (w1.alloc (.cells #[(.slice V ds.length cv0), (.slice ⌜g⌝ (os.length + 1) co), .int .i64 cd, .int .i64 at_] 45)).heap.size = w1.heap.size + 1 := by simp
  generalize hwa : w1.alloc (.cells #[(.slice V ds.length cv0), (.slice ⌜g⌝ (os.length + 1) co), .int .i64 cd, .int .i64 at_] 45) = wa at *
  refine rest_new (q := 2) (j0 := 1) (ob := (.cells cs.toArray 34)) (nl := [(3, ⟪wa.heap.size, 0⟫)]) κ κ (by decide) hfr0a rfl (.s rfl (st_eq ⟨_, ru_box rfl rfl, fun d h1 _ => by cases h1; rfl⟩)
    (.z)) (fun a hfr0b => ?_)
  have hNb := own_box (w := wa) (e := 34) hcl
  have hRb := hRa.alloc (.cells cs.toArray 34)
  have hbb : Below wa.heap.size wa (wa.alloc (.cells cs.toArray 34)) := (Below.refl _ wa).alloc (Nat.le_refl _) _
  have hsb : (wa.alloc (.cells cs.toArray 34)).heap.size = wa.heap.size + 1 := by simp
  generalize hwb : wa.alloc (.cells cs.toArray 34) = wb at *
  refine rest_new (q := 3) (j0 := 2) (ob := (.cells ([.slice none 0 0, .slice none 0 0, .int .i64 0, .int .i64 0] : List Value).toArray 45)) (nl := [(4, ⟪wb.heap.size, 0⟫)]) κ κ (by decide) hfr0b rfl (.s rfl (st_eq ⟨_, ru_alloc rfl sxTyB, fun d h1 _ => by cases h1; rfl⟩)
    (.z)) (fun a hfr1 => ?_)
  have hZc := own_box (w := wb) (e := 45) (cs := [.slice none 0 0, .slice none 0 0, .int .i64 0, .int .i64 0]) (n := 4) rfl
  have hRc := hRb.alloc (.cells ([.slice none 0 0, .slice none 0 0, .int .i64 0, .int .i64 0] : List Value).toArray 45)
  have hNc := hNb.alloc (.cells ([.slice none 0 0, .slice none 0 0, .int .i64 0, .int .i64 0] : List Value).toArray 45)
  have hbc : Below wb.heap.size wb (wb.alloc (.cells ([.slice none 0 0, .slice none 0 0, .int .i64 0, .int .i64 0] : List Value).toArray 45)) := (Below.refl _ wb).alloc (Nat.le_refl _) _
  have hsc : (wb.alloc (.cells ([.slice none 0 0, .slice none 0 0, .int .i64 0, .int .i64 0] : List Value).toArray 45)).heap.size = wb.heap.size + 1 := by simp
  generalize hw2 : wb.alloc (.cells ([.slice none 0 0, .slice none 0 0, .int .i64 0, .int .i64 0] : List Value).toArray 45) = w2 at *
  refine rest_end κ ?_
  have hC2 : Below w.heap.size w w2 := hb1.trans ((hba.trans ((hbb.trans (hbc.mono (by omega))).mono (by omega))).mono hb1.size)
  have hw1 := hb1.size
  have hP2 := push_in hM hb hn hC2 hw1 (show w.heap.size ≤ wb.heap.size by omega) (by omega) hRc
  refine wp_seq (wp_seq (region_rest sxMix fun w3 _ hb3 => ?_))
  have hP3 := hP2.next hb3
  have hN3 := row_next hNc hb3
  have hZ3 := row_next hZc hb3
  have hC3 := hC2.trans (hb3.mono hC2.size)
  refine rest_reads (q := 4) (nl := [(6, ⟪w1.heap.size, 0 + 1⟫), (7, (.slice ⌜g⌝ (os.length + 1) co)), (8, (.int .i64 ((((os.length + 1) : Nat) : Int)))), (9, (.bool (decide ((((os.length + 1) : Nat) : Int) = (0 : Int)))))]) κ κ hfr1 rfl (.s rfl (δ ru_field (d := 1) rfl κ rfl)
    (.s rfl (rd_of rfl rfl fun _ hw => ru_load rfl sxTyL rfl rfl (At.rd (At.row (cs := [(.slice ⌜g⌝ (os.length + 1) co)]) hP3.r rfl rfl) (by simp) hw))
    (.s rfl (δ ru_len rfl sxUnd rfl)
    (.s rfl (δ ru_eq rfl rfl rfl)
    (.z))))) (fun a hfr2 => ?_)
  refine rest_end κ ?_
  refine wp_cond_false ((hfr2.get (t := 9) rfl).trans (by show Value.bool (decide _) = _; rw [decide_eq_false (by omega)])) (wp_skip ?_)
  refine wp_seq (region_rest sxMix fun w4 _ hb4 => ?_)
  have hP4 := hP3.next hb4
  have hN4 := row_next hN3 hb4
  have hZ4 := row_next hZ3 hb4
  have hC4 := hC3.trans (hb4.mono hC3.size)
  refine rest_reads (q := 5) (nl := [(17, ⟪w1.heap.size, 0 + 1⟫), (18, (.slice ⌜g⌝ (os.length + 1) co)), (19, (.int .i64 ((((os.length + 1) : Nat) : Int)))), (20, (.int .i64 (IntKind.i64.wrap ((((os.length + 1) : Nat) : Int) - (1 : Int))))), (5, (.int .i64 (IntKind.i64.wrap ((((os.length + 1) : Nat) : Int) - (1 : Int)))))]) κ κ hfr2 rfl (.s rfl (δ ru_field (d := 1) rfl κ rfl)
    (.s rfl (rd_of rfl rfl fun _ hw => ru_load rfl sxTyL rfl rfl (At.rd (At.row (cs := [(.slice ⌜g⌝ (os.length + 1) co)]) hP4.r rfl rfl) (by simp) hw))
    (.s rfl (δ ru_len rfl sxUnd rfl)
    (.s rfl (δ ru_sub rfl rfl rfl)
    (.s rfl (δ ru_assign rfl rfl)
    (.z)))))) (fun a hfr4 => ?_)
  refine rest_end κ ?_
  refine wp_seq (wp_seq (region_rest sxMix fun w5 _ hb5 => ?_))
  refine rest_new (q := 1) (j0 := 0) (ob := (.cells #[.bool false] 4)) (nl := [(21, ⟪w5.heap.size, 0⟫)]) κ κ (by decide) hfr4 rfl (.s rfl (st_eq ⟨_, ru_alloc rfl sxTyBo, fun d h1 _ => by cases h1; rfl⟩)
    (.z)) (fun a hfr5 => ?_)
  have hX6 := own_box (w := w5) (e := 4) (cs := [.bool false]) (n := 1) rfl
  have hb6 : Below w5.heap.size w5 (w5.alloc (.cells #[.bool false] 4)) := (Below.refl _ w5).alloc (Nat.le_refl _) _
  generalize hw6 : w5.alloc (.cells #[.bool false] 4) = w6 at *
  have hflip : ∀ (b : Bool) (o : Oper) (l : List (Nat × Value)), o.op = .store 4 (.tmp 21) (.const (.bool b)) → o.dst = none → FK.look l 21 = ⟪w5.heap.size, 0⟫ → StK Tryd.prog (evL l) (fun v => (∃ b : Bool, v.ownsRow 0 4 1 (.slice ⌜w5.heap.size⌝ 1 1) 1 [.bool b]) ∧ Below w5.heap.size w5 v) o := by
    intro b o l ho hd hl
    refine ⟨hd, fun v ⟨⟨b', hr⟩, hbe⟩ => ?_⟩
    obtain ⟨v2, k1, k2, k3⟩ := rs_store (P := Tryd.prog) (ρ := evL l) (o := o) (vs := [.bool b]) ho (m := 1) κ hl rfl rfl (by simp [Value.oneCell']) hr (k := 0) (by simp)
    exact ⟨v2, k1, ⟨b, k2⟩, hbe.trans ⟨k3.os, k3.tape, k3.output, k3.size, fun q hq => k3.block q (Nat.lt_of_lt_of_le hq hbe.size) fun e => by have : q = w5.heap.size := Option.some.inj e; omega⟩⟩
  refine rest_inv (q := 3) (nl := []) (fun v => (∃ b : Bool, v.ownsRow 0 4 1 (.slice ⌜w5.heap.size⌝ 1 1) 1 [.bool b]) ∧ Below w5.heap.size w5 v) κ κ hfr5 rfl ⟨⟨false, hX6⟩, hb6⟩ (.s rfl (.inl (hflip true _ _ rfl rfl rfl)) (.s rfl (.inl (hflip false _ _ rfl rfl rfl)) .z)) (fun a w6 hfr6 hI => ?_)
  obtain ⟨⟨bq, hX⟩, hb56⟩ := hI
  refine rest_reads (q := 4) (nl := [(22, .bool bq)]) κ κ hfr6 rfl (.s rfl (rd_of rfl rfl fun _ hw => ru_load rfl sxTyBo rfl rfl (At.rd (cs := [.bool bq]) (At.all hX) (by simp) hw)) .z) (fun a hfr7 => ?_)
  refine rest_end κ ?_
  have hb46 := hb5.trans (hb56.mono hb5.size)
  have hP6 := hP4.next hb46
  have hN6 := row_next hN4 hb46
  have hZ6 := row_next hZ4 hb46
  have hC6 := hC4.trans (hb46.mono hC4.size)
  cases bq with
  | false =>
    refine wp_cond_false (hfr7.get (t := 22) rfl) ?_
    refine region_rest sxMix fun w7 _ hb7 => ?_
    have hP7 := hP6.next hb7
    have hN7 := row_next hN6 hb7
    have hZ7 := row_next hZ6 hb7
    have hC7 := hC6.trans (hb7.mono hC6.size)
    have ho7 := hP7.b.o
    rw [hol] at ho7
    have hatK : At w7 g (0 + Int.toNat (IntKind.i64.wrap ((((os.length + 1) : Nat) : Int) - (1 : Int))) * 7 + 6) [Value.slice K pk.length ck] := At.row ho7 rfl (by rw [hof]; exact hx1)
    obtain ⟨ys, hy, hyr⟩ := hP7.b.k os.length _ snoc_last
    simp only at hy hyr
    have hyl : ys.length = pk.length * 7 := hy.1
    have hgF : Foot (Value.slice ⌜g⌝ (os.length + 1) co) (.slice V ds.length cv0) (os ++ [(⟨pt, .slice K pk.length ck, pk⟩ : OpD)]) g := .inl rfl
    have hgM := hP7.b.m g hgF
    have hKg : (Value.slice K pk.length ck).ownBlock ≠ some g := fun e => (hP7.b.ok g os.length _ snoc_last e).1 rfl
    have hKF : ∀ b, (Value.slice K pk.length ck).ownBlock = some b → Foot (Value.slice ⌜g⌝ (os.length + 1) co) (.slice V ds.length cv0) (os ++ [(⟨pt, .slice K pk.length ck, pk⟩ : OpD)]) b := fun b hb => .inr (.inr ⟨_, _, snoc_last, hb⟩)
    have hKM : ∀ b, (Value.slice K pk.length ck).ownBlock = some b → ¬ (M b ∨ b = w1.heap.size ∨ b = wb.heap.size) := fun b e => hP7.b.m b (hKF b e)
    have hgl7 := hP7.b.lt hgF
    obtain ⟨i0, hi0, hi1, hi2, hi3⟩ := sxInfo3
    have hS8 := own_box (w := w7) (e := 34) hcl
    have hb8 : Below w7.heap.size w7 (w7.alloc (.cells cs.toArray 34)) := (Below.refl _ w7).alloc (Nat.le_refl _) _
    have hPA := hP7.next hb8
    have hZA := row_next hZ7 hb8
    have hCA := hC7.trans (hb8.mono hC7.size)
    have hyA := row_next hy hb8
    have hyrA := hyr.next (Agree.of_below hb8) (fun _ _ h => h)
    generalize hw8e : w7.alloc (.cells cs.toArray 34) = w8 at *
    obtain ⟨v', w9, hrun, hv, hgr, _, hvb⟩ := run_append_own_at (P := Tryd.prog) w8 0 22 22 34 i0 zNode 7 80 sxUnd hi0 hi1 hi2 hi3 rfl (by decide) (Value.slice K pk.length ck) pk.length ys hyA ⟨w7.heap.size, 0, none⟩ 1 1 cs (by omega) (fun j u hj => by
      rw [add_lit]; exact At.all hS8 j u hj) hone (by simp only [maxLen]; omega) (by omega) (Nat.zero_le _)
    obtain ⟨gv, cv, rfl⟩ := own_form hv (Nat.succ_pos _)
    have hgv : gv ≠ g := by
      rintro rfl
      rcases hvb with e | e
      · exact hKg e.symm
      · have e : gv = w8.heap.size := Option.some.inj e
        have := hPA.b.lt hgF
        omega
    have ho8 := hPA.b.o
    rw [hol] at ho8
    have ho9 := ho8.kept hgr (.inr fun e => hKg e.symm)
    have hnR : (Value.slice K pk.length ck).ownBlock ≠ some w1.heap.size := fun e => hKM _ e (.inr (.inl rfl))
    have hnN : (Value.slice K pk.length ck).ownBlock ≠ some wa.heap.size := fun e => by have := (hy0.lt _ e).2; omega
    refine rest_app2 (q := 12) (j0 := 10) (j1 := 11) (wA := w8) (wB := w9) (nl := [(36, ⟪w1.heap.size, 0 + 1⟫), (37, (.slice ⌜g⌝ (os.length + 1) co)), (38, (.int .i64 (IntKind.i64.wrap ((((os.length + 1) : Nat) : Int) - (1 : Int))))), (39, ⟪w1.heap.size, 0 + 1⟫), (40, (.slice ⌜g⌝ (os.length + 1) co)), (41, (.int .i64 (IntKind.i64.wrap ((((os.length + 1) : Nat) : Int) - (1 : Int))))), (42, ⟪g, 0 + Int.toNat (IntKind.i64.wrap ((((os.length + 1) : Nat) : Int) - (1 : Int))) * 7⟫), (43, ⟪g, 0 + Int.toNat (IntKind.i64.wrap ((((os.length + 1) : Nat) : Int) - (1 : Int))) * 7 + 6⟫), (44, (.slice K pk.length ck)), (45, (.agg (cs).toArray)), (46, (.slice ⌜w7.heap.size⌝ 1 1)), (47, (.slice ⌜gv⌝ (pk.length + 1) cv))]) (fun v => ∀ b, b < w7.heap.size → (Value.slice K pk.length ck).ownBlock ≠ some b → v.heap[b]? = w7.heap[b]?) κ κ (by decide) κ hfr7 rfl (fun _ _ _ => rfl) (fun b hlt _ => hb8.block b hlt) (fun b hlt hne => (hgr.block b (Nat.lt_of_lt_of_le hlt hb8.size) (fun e => hne e.symm)).trans (hb8.block b hlt)) (.s rfl (st_ne (by decide) (st_ne (by decide) (rk_of rfl rfl fun _ _ => ru_field (d := 1) rfl κ rfl)))
      (.s rfl (st_ne (by decide) (st_ne (by decide) (rk_of rfl rfl fun _ hw => ru_load rfl sxTyL rfl rfl (At.rk (At.row (cs := [(.slice ⌜g⌝ (os.length + 1) co)]) hP7.r rfl rfl) (by simp) (by assumption) hw))))
      (.s rfl (st_ne (by decide) (st_ne (by decide) (rk_of rfl rfl fun _ _ => ru_move rfl rfl)))
      (.s rfl (st_ne (by decide) (st_ne (by decide) (rk_of rfl rfl fun _ _ => ru_field (d := 1) rfl κ rfl)))
      (.s rfl (st_ne (by decide) (st_ne (by decide) (rk_of rfl rfl fun _ hw => ru_load rfl sxTyL rfl rfl (At.rk (At.row (cs := [(.slice ⌜g⌝ (os.length + 1) co)]) hP7.r rfl rfl) (by simp) (by assumption) hw))))
      (.s rfl (st_ne (by decide) (st_ne (by decide) (rk_of rfl rfl fun _ _ => ru_move rfl rfl)))
      (.s rfl (st_ne (by decide) (st_ne (by decide) (rk_of rfl rfl fun _ _ => ru_index (sz := 7) rfl sxUnd sxSz rfl rfl (by rw [hwr]; omega) (by rw [hwr]; omega))))
      (.s rfl (st_ne (by decide) (st_ne (by decide) (rk_of rfl rfl fun _ _ => ru_field (d := 6) rfl κ rfl)))
      (.s rfl (st_ne (by decide) (st_ne (by decide) (rk_of rfl rfl fun _ hw => ru_load rfl sxTyL rfl rfl (At.rk hatK (by simp) (by assumption) hw))))
      (.s rfl (st_ne (by decide) (st_ne (by decide) (rk_of rfl rfl fun _ hw => ru_load rfl sxTyN hcl rfl (At.rk (At.all hN7) hcp (by assumption) hw))))
      (.s rfl (st_eq ⟨.slice ⌜w7.heap.size⌝ 1 1, (by rw [← hw8e]; exact ru_bslice rfl sxUnd sxInfo rfl (by decide) (by decide) rfl (by simp [hcl])), fun d h1 _ => by cases h1; rfl⟩)
      (.s rfl (st_ne (by decide) (st_eq ⟨_, ru_app2 rfl rfl rfl hrun, fun d h1 _ => by cases h1; rfl⟩))
      (.z))))))))))))) (fun a hfr8 => ?_)
    refine rest_reads (q := 14) (nl := [(48, ⟪g, 0 + Int.toNat (IntKind.i64.wrap ((((os.length + 1) : Nat) : Int) - (1 : Int))) * 7⟫), (49, ⟪g, 0 + Int.toNat (IntKind.i64.wrap ((((os.length + 1) : Nat) : Int) - (1 : Int))) * 7 + 6⟫)]) κ κ hfr8 rfl (.s rfl (δ ru_index (sz := 7) rfl sxUnd sxSz rfl rfl (by rw [hwr]; omega) (by rw [hwr]; omega))
      (.s rfl (δ ru_field (d := 6) rfl κ rfl)
      (.z))) (fun a hfr9 => ?_)
    refine rest_store κ κ rfl hfr9 κ rfl (rs_store (vs := [.slice ⌜gv⌝ (pk.length + 1) cv]) rfl κ rfl rfl rfl (by simp [Value.oneCell']) ho9 (by rw [hof, hxl]; simp; omega)) ?_
    rintro w10 ⟨hs2, hg10⟩
    have hs1 := hv.kept hg10 (.inr fun e => hgv (Option.some.inj e))
    refine rest_end κ ?_
    have hch : Chg (fun b => (Value.slice K pk.length ck).ownBlock = some b ∨ b = g) w8 w10 := ((Chg.grown' hgr).mono fun b e => .inl e).then (Chg.grown' hg10) fun b _ e => .inr (Option.some.inj e).symm
    have hsq : splice (opsC (os ++ [(⟨pt, .slice K pk.length ck, pk⟩ : OpD)])) (0 + Int.toNat (IntKind.i64.wrap ((((os.length + 1) : Nat) : Int) - (1 : Int))) * 7 + 6) [.slice ⌜gv⌝ (pk.length + 1) cv] = (opsC os ++ tokC pt) ++ [.slice ⌜gv⌝ (pk.length + 1) cv] := by
      rw [hof, opsC_app, opsC_one, opC, ← List.append_assoc]
      have e : os.length * 7 + 6 = (opsC os ++ tokC pt).length + 0 := by rw [List.length_append, opsC_len]; rfl
      rw [e, splice_right]; rfl
    rw [hsq] at hs2
    have hout : Out (fun b => M b ∨ b = w1.heap.size ∨ b = wb.heap.size) (fun b => (Value.slice K pk.length ck).ownBlock = some b ∨ ((Value.slice ⌜g⌝ (os.length + 1) co)).ownBlock = some b) w8 w10 := by
      refine ⟨Beyond.size hch, fun b hlt hm hx => Chg.block hch hlt fun e => ?_⟩
      rcases e with e | rfl
      · exact hx (.inl e)
      · exact hx (.inr rfl)
    have hBW := (hPA.b).grow hPA.m hyrA hPA.n hs1 hout hvb rfl hs2
    have hCW : Chg (Foot (Value.slice ⌜g⌝ (os.length + 1) co) (.slice V ds.length cv0) (os ++ [(⟨pt, .slice K pk.length ck, pk⟩ : OpD)])) w w10 := (Chg.below hCA).then hch fun b _ e => e.elim (hKF b) fun e => e ▸ hgF
    have hRW : w10.ownsRow 0 45 4 (.slice ⌜w1.heap.size⌝ 1 1) 1 [(.slice V ds.length cv0), (.slice ⌜g⌝ (os.length + 1) co), .int .i64 cd, .int .i64 at_] := ownsRow_same hPA.r fun b hb => by
      have : w1.heap.size = b := Option.some.inj hb
      subst this
      exact Chg.block hch (hPA.m _ (.inr (.inl rfl))) fun e => e.elim (fun e => hKM _ e (.inr (.inl rfl))) fun e => hgM (.inr (.inl e.symm))
    have hZW : w10.ownsRow 0 45 4 (.slice ⌜wb.heap.size⌝ 1 1) 1 [.slice none 0 0, .slice none 0 0, .int .i64 0, .int .i64 0] := ownsRow_same hZA fun b hb => by
      have : wb.heap.size = b := Option.some.inj hb
      subst this
      exact Chg.block hch (hPA.m _ (.inr (.inr rfl))) fun e => e.elim (fun e => hKM _ e (.inr (.inr rfl))) fun e => hgM (.inr (.inr e.symm))
    refine wp_seq (region_rest sxMix fun wy _ hby => ?_)
    have hRy := row_next hRW hby
    have hZy := row_next hZW hby
    refine rest_reads (q := 1) (nl := [(50, .agg #[(.slice V ds.length cv0), (.slice ⌜g⌝ (os.length + 1) co), .int .i64 cd, .int .i64 at_])]) κ κ hfr9 rfl (.s rfl (rd_of rfl rfl fun _ hw => ru_load rfl sxTyB rfl rfl (At.rd (cs := [(.slice V ds.length cv0), (.slice ⌜g⌝ (os.length + 1) co), .int .i64 cd, .int .i64 at_]) (At.all hRy) (by simp) hw)) .z) (fun a hfrZ => ?_)
    refine rest_store κ κ rfl hfrZ κ rfl (rs_store (vs := [(.slice V ds.length cv0), (.slice ⌜g⌝ (os.length + 1) co), .int .i64 cd, .int .i64 at_]) rfl κ rfl rfl rfl (by exact one4 rfl rfl rfl rfl) hZy (by simp)) ?_
    rintro wz ⟨hZz, hgz⟩
    refine rest_end κ ?_
    refine wp_ret ?_
    refine post_ret_cell (t := 4) rfl sxTyB rfl (hfrZ.get (t := 4) rfl) (At.all hZz) hfrZ.1 ⟨_, rfl, push_out hBW (w' := wz) ⟨Nat.le_trans hby.size hgz.size, fun b hlt hm => (hgz.block b (Nat.lt_of_lt_of_le hlt hby.size) fun e => hm (.inr (.inr (Option.some.inj e)))).trans (hby.block b hlt)⟩, ?_, foot_grow (p := ⟨pt, .slice K pk.length ck, pk⟩) hvb hCA.size⟩
    exact (hCW.then (Chg.below (S := fun _ => False) hby) fun b _ e => e.elim).then (Chg.grown' hgz) fun b hlt e => by have : wb.heap.size = b := Option.some.inj e; omega
  | true =>
    refine wp_cond_true (hfr7.get (t := 22) rfl) ?_
    refine wp_seq (region_rest sxMix fun w7 _ hb7 => ?_)
    have hP7 := hP6.next hb7
    have hN7 := row_next hN6 hb7
    have hZ7 := row_next hZ6 hb7
    have hC7 := hC6.trans (hb7.mono hC6.size)
    have ho7 := hP7.b.o
    rw [hol] at ho7
    have hatK : At w7 g (0 + Int.toNat (IntKind.i64.wrap ((((os.length + 1) : Nat) : Int) - (1 : Int))) * 7 + 6) [Value.slice K pk.length ck] := At.row ho7 rfl (by rw [hof]; exact hx1)
    obtain ⟨ys, hy, hyr⟩ := hP7.b.k os.length _ snoc_last
    simp only at hy hyr
    have hyl : ys.length = pk.length * 7 := hy.1
    have hgF : Foot (Value.slice ⌜g⌝ (os.length + 1) co) (.slice V ds.length cv0) (os ++ [(⟨pt, .slice K pk.length ck, pk⟩ : OpD)]) g := .inl rfl
    have hgM := hP7.b.m g hgF
    have hKg : (Value.slice K pk.length ck).ownBlock ≠ some g := fun e => (hP7.b.ok g os.length _ snoc_last e).1 rfl
    have hKF : ∀ b, (Value.slice K pk.length ck).ownBlock = some b → Foot (Value.slice ⌜g⌝ (os.length + 1) co) (.slice V ds.length cv0) (os ++ [(⟨pt, .slice K pk.length ck, pk⟩ : OpD)]) b := fun b hb => .inr (.inr ⟨_, _, snoc_last, hb⟩)
    have hKM : ∀ b, (Value.slice K pk.length ck).ownBlock = some b → ¬ (M b ∨ b = w1.heap.size ∨ b = wb.heap.size) := fun b e => hP7.b.m b (hKF b e)
    have hgl7 := hP7.b.lt hgF
    obtain ⟨i0, hi0, hi1, hi2, hi3⟩ := sxInfo3
    refine rest_new (q := 9) (j0 := 8) (ob := (.cells zCells.toArray 34)) (nl := [(23, ⟪w1.heap.size, 0 + 1⟫), (24, (.slice ⌜g⌝ (os.length + 1) co)), (25, (.int .i64 (IntKind.i64.wrap ((((os.length + 1) : Nat) : Int) - (1 : Int))))), (26, ⟪g, 0 + Int.toNat (IntKind.i64.wrap ((((os.length + 1) : Nat) : Int) - (1 : Int))) * 7⟫), (27, ⟪g, 0 + Int.toNat (IntKind.i64.wrap ((((os.length + 1) : Nat) : Int) - (1 : Int))) * 7 + 6⟫), (28, (.slice K pk.length ck)), (29, (.agg (cs).toArray)), (30, (.int .i64 (((pk.length : Nat) : Int)))), (31, (.slice ⌜w7.heap.size⌝ 1 1))]) κ κ (by decide) hfr7 rfl (.s rfl (st_ne (by decide) (δ ru_field (d := 1) rfl κ rfl))
      (.s rfl (st_ne (by decide) (rd_of rfl rfl fun _ hw => ru_load rfl sxTyL rfl rfl (At.rd (At.row (cs := [(.slice ⌜g⌝ (os.length + 1) co)]) hP7.r rfl rfl) (by simp) hw)))
      (.s rfl (st_ne (by decide) (δ ru_move rfl rfl))
      (.s rfl (st_ne (by decide) (δ ru_index (sz := 7) rfl sxUnd sxSz rfl rfl (by rw [hwr]; omega) (by rw [hwr]; omega)))
      (.s rfl (st_ne (by decide) (δ ru_field (d := 6) rfl κ rfl))
      (.s rfl (st_ne (by decide) (rd_of rfl rfl fun _ hw => ru_load rfl sxTyL rfl rfl (At.rd hatK (by simp) hw)))
      (.s rfl (st_ne (by decide) (rd_of rfl rfl fun _ hw => ru_load rfl sxTyN hcl rfl (At.rd (At.all hN7) hcp hw)))
      (.s rfl (st_ne (by decide) (δ ru_len rfl sxUnd rfl))
      (.s rfl (st_eq ⟨_, ru_bslice rfl sxUnd sxInfo rfl (by decide) (by decide) rfl rfl, fun d h1 _ => by cases h1; rfl⟩)
      (.z)))))))))) (fun a hfr8 => ?_)
    have hS8 := own_box (w := w7) (e := 34) (cs := zCells) (n := 7) rfl
    have hb8 : Below w7.heap.size w7 (w7.alloc (.cells zCells.toArray 34)) := (Below.refl _ w7).alloc (Nat.le_refl _) _
    have hPA := hP7.next hb8
    have hZA := row_next hZ7 hb8
    have hCA := hC7.trans (hb8.mono hC7.size)
    have hyA := row_next hy hb8
    have hyrA := hyr.next (Agree.of_below hb8) (fun _ _ h => h)
    generalize hw8 : w7.alloc (.cells zCells.toArray 34) = w8 at *
    refine rest_app κ κ rfl hfr8 κ rfl (ru_append rfl sxUnd hi0 hi1 hi2 hi3 rfl (by decide) rfl rfl hyA rfl (At.all hS8) (by decide) (by simp only [maxLen]; omega) (by omega)) ?_
    rintro v' w9 a ⟨hv, hgr, hvb⟩ hfr9
    obtain ⟨gv, cv, rfl⟩ := own_form hv (Nat.succ_pos _)
    have hgv : gv ≠ g := by
      rintro rfl
      rcases hvb with e | e
      · exact hKg e.symm
      · have e : gv = w8.heap.size := Option.some.inj e
        have := hPA.b.lt hgF
        omega
    have ho8 := hPA.b.o
    rw [hol] at ho8
    have ho9 := ho8.kept hgr (.inr fun e => hKg e.symm)
    refine rest_reads (q := 12) (nl := [(33, ⟪g, 0 + Int.toNat (IntKind.i64.wrap ((((os.length + 1) : Nat) : Int) - (1 : Int))) * 7⟫), (34, ⟪g, 0 + Int.toNat (IntKind.i64.wrap ((((os.length + 1) : Nat) : Int) - (1 : Int))) * 7 + 6⟫)]) κ κ hfr9 rfl (.s rfl (δ ru_index (sz := 7) rfl sxUnd sxSz rfl rfl (by rw [hwr]; omega) (by rw [hwr]; omega))
      (.s rfl (δ ru_field (d := 6) rfl κ rfl)
      (.z))) (fun a hfr10 => ?_)
    refine rest_store κ κ rfl hfr10 κ rfl (rs_store (vs := [.slice ⌜gv⌝ (pk.length + 1) cv]) rfl κ rfl rfl rfl (by simp [Value.oneCell']) ho9 (by rw [hof, hxl]; simp; omega)) ?_
    rintro w10 ⟨hs2, hg10⟩
    have hv10 := hv.kept hg10 (.inr fun e => hgv (Option.some.inj e))
    refine rest_end κ ?_
    refine region_rest sxMix fun w11 _ hb11 => ?_
    have hv11 := row_next hv10 hb11
    replace hs2 := row_next hs2 hb11
    refine rest_reads (q := 1) (nl := [(35, ⟪gv, 0 + Int.toNat (((pk.length : Nat) : Int)) * 7⟫)]) κ κ hfr10 rfl (.s rfl (δ ru_index (sz := 7) rfl sxUnd sxSz rfl rfl (Int.natCast_nonneg _) (by omega))
      (.z)) (fun a hfr11 => ?_)
    refine rest_store κ κ rfl hfr11 κ rfl (rs_store (vs := cs) rfl κ rfl rfl hcl hone hv11 (by rw [List.length_append, hyl, hcl]; show _ ≤ _ + 7; omega)) ?_
    rintro w12 ⟨hs1, hg12⟩
    replace hs2 := hs2.kept hg12 (.inr fun e => hgv (Option.some.inj e).symm)
    refine rest_end κ ?_
    have hsp : splice (ys ++ zCells) (0 + Int.toNat ((pk.length : Nat) : Int) * 7) cs = ys ++ cs := by
      have e : 0 + Int.toNat ((pk.length : Nat) : Int) * 7 = ys.length + 0 := by rw [hyl]; simp
      rw [e, splice_right, splice_whole zCells cs (by rw [hcl]; rfl)]
    rw [hsp] at hs1
    have hgvK : ∀ b, b < w8.heap.size → some gv = some b → (Value.slice K pk.length ck).ownBlock = some b := fun b hlt e => by
      rcases hvb with e' | e'
      · exact e'.symm.trans e
      · have : gv = w8.heap.size := Option.some.inj e'
        have : gv = b := Option.some.inj e
        omega
    have hch : Chg (fun b => (Value.slice K pk.length ck).ownBlock = some b ∨ b = g) w8 w12 := (((((Chg.grown' hgr).mono fun b e => .inl e).then (Chg.grown' hg10) fun b _ e => .inr (Option.some.inj e).symm).then (Chg.below (S := fun _ => False) hb11) fun b _ e => e.elim).then (Chg.grown' hg12) fun b hlt e => .inl (hgvK b hlt e))
    have hsq : splice (opsC (os ++ [(⟨pt, .slice K pk.length ck, pk⟩ : OpD)])) (0 + Int.toNat (IntKind.i64.wrap ((((os.length + 1) : Nat) : Int) - (1 : Int))) * 7 + 6) [.slice ⌜gv⌝ (pk.length + 1) cv] = (opsC os ++ tokC pt) ++ [.slice ⌜gv⌝ (pk.length + 1) cv] := by
      rw [hof, opsC_app, opsC_one, opC, ← List.append_assoc]
      have e : os.length * 7 + 6 = (opsC os ++ tokC pt).length + 0 := by rw [List.length_append, opsC_len]; rfl
      rw [e, splice_right]; rfl
    rw [hsq] at hs2
    have hout : Out (fun b => M b ∨ b = w1.heap.size ∨ b = wb.heap.size) (fun b => (Value.slice K pk.length ck).ownBlock = some b ∨ ((Value.slice ⌜g⌝ (os.length + 1) co)).ownBlock = some b) w8 w12 := by
      refine ⟨Beyond.size hch, fun b hlt hm hx => Chg.block hch hlt fun e => ?_⟩
      rcases e with e | rfl
      · exact hx (.inl e)
      · exact hx (.inr rfl)
    have hBW := (hPA.b).grow hPA.m hyrA hPA.n hs1 hout hvb rfl hs2
    have hCW : Chg (Foot (Value.slice ⌜g⌝ (os.length + 1) co) (.slice V ds.length cv0) (os ++ [(⟨pt, .slice K pk.length ck, pk⟩ : OpD)])) w w12 := (Chg.below hCA).then hch fun b _ e => e.elim (hKF b) fun e => e ▸ hgF
    have hRW : w12.ownsRow 0 45 4 (.slice ⌜w1.heap.size⌝ 1 1) 1 [(.slice V ds.length cv0), (.slice ⌜g⌝ (os.length + 1) co), .int .i64 cd, .int .i64 at_] := ownsRow_same hPA.r fun b hb => by
      have : w1.heap.size = b := Option.some.inj hb
      subst this
      exact Chg.block hch (hPA.m _ (.inr (.inl rfl))) fun e => e.elim (fun e => hKM _ e (.inr (.inl rfl))) fun e => hgM (.inr (.inl e.symm))
    have hZW : w12.ownsRow 0 45 4 (.slice ⌜wb.heap.size⌝ 1 1) 1 [.slice none 0 0, .slice none 0 0, .int .i64 0, .int .i64 0] := ownsRow_same hZA fun b hb => by
      have : wb.heap.size = b := Option.some.inj hb
      subst this
      exact Chg.block hch (hPA.m _ (.inr (.inr rfl))) fun e => e.elim (fun e => hKM _ e (.inr (.inr rfl))) fun e => hgM (.inr (.inr e.symm))
    refine wp_seq (region_rest sxMix fun wy _ hby => ?_)
    have hRy := row_next hRW hby
    have hZy := row_next hZW hby
    refine rest_reads (q := 1) (nl := [(50, .agg #[(.slice V ds.length cv0), (.slice ⌜g⌝ (os.length + 1) co), .int .i64 cd, .int .i64 at_])]) κ κ hfr11 rfl (.s rfl (rd_of rfl rfl fun _ hw => ru_load rfl sxTyB rfl rfl (At.rd (cs := [(.slice V ds.length cv0), (.slice ⌜g⌝ (os.length + 1) co), .int .i64 cd, .int .i64 at_]) (At.all hRy) (by simp) hw)) .z) (fun a hfrZ => ?_)
    refine rest_store κ κ rfl hfrZ κ rfl (rs_store (vs := [(.slice V ds.length cv0), (.slice ⌜g⌝ (os.length + 1) co), .int .i64 cd, .int .i64 at_]) rfl κ rfl rfl rfl (by exact one4 rfl rfl rfl rfl) hZy (by simp)) ?_
    rintro wz ⟨hZz, hgz⟩
    refine rest_end κ ?_
    refine wp_ret ?_
    refine post_ret_cell (t := 4) rfl sxTyB rfl (hfrZ.get (t := 4) rfl) (At.all hZz) hfrZ.1 ⟨_, rfl, push_out hBW (w' := wz) ⟨Nat.le_trans hby.size hgz.size, fun b hlt hm => (hgz.block b (Nat.lt_of_lt_of_le hlt hby.size) fun e => hm (.inr (.inr (Option.some.inj e)))).trans (hby.block b hlt)⟩, ?_, foot_grow (p := ⟨pt, .slice K pk.length ck, pk⟩) hvb hCA.size⟩
    exact (hCW.then (Chg.below (S := fun _ => False) hby) fun b _ e => e.elim).then (Chg.grown' hgz) fun b hlt e => by have : wb.heap.size = b := Option.some.inj e; omega
theorem push_ok {cd at_ : Int} (hM : ∀ q, M q → q < w.heap.size) (hb : BOk M 34 w vo vd os ds) (hn : Rep (fun q => M q ∨ Foot vo vd os q) w nodeT n.un cs) {N : Nat} (hN : N < 1099511627776) (hlim : BLim N (absO os, ds)) :
    Calls Tryd.prog 42 #[.agg #[vd, vo, .int .i64 cd, .int .i64 at_], .agg cs.toArray] w fun e w' => ∃ x : Value × Value, e = .returned (.agg #[x.2, x.1, .int .i64 cd, .int .i64 at_]) ∧ ∃ os' ds', BOk M 34 w' x.1 x.2 os' ds' ∧ (absO os', ds') = bputS (absO os, ds) n ∧ Chg (Foot vo vd os) w w' ∧ ∀ b, b < w.heap.size → Foot x.1 x.2 os' b → Foot vo vd os b := by
  rcases List.eq_nil_or_concat os with rfl | ⟨os, p, rfl⟩
  · refine Calls.mono (push_done hM hb hn (Nat.lt_of_le_of_lt hlim.1 hN)) ?_
    rintro e w' ⟨vd', he, h1, h3, h4⟩
    exact ⟨(vo, vd'), he, [], ds ++ [n], h1, rfl, h3, h4⟩
  · rw [List.concat_eq_append] at hb hn hlim ⊢
    have hp := hlim.2.2 (p.t, p.k) (by rw [absO_snoc]; exact List.mem_cons_self ..)
    have hl := hlim.2.1
    rw [absO_len] at hl
    simp at hl
    refine Calls.mono (push_kid hM hb hn (by omega) (Nat.lt_of_le_of_lt hp hN)) ?_
    rintro e w' ⟨v', he, h1, h3, h4⟩
    exact ⟨(vo, vd), he, os ++ [⟨p.t, v', p.k ++ [n]⟩], ds, h1, by rw [absO_snoc, absO_snoc]; rfl, h3, h4⟩
theorem build_ok {A : Option Addr} {ca : Nat} {l : List TokD} (hM : ∀ q, M q → q < w.heap.size) (hA : 0 < l.length → ∃ a, A = some a ∧ a.block < w.heap.size ∧ ¬ M a.block ∧ ∀ i t, l[i]? = some t → AtA w (a.add (i * 6)) (tokC t)) (hlim : limB ([], []) l.length = true) :
    Calls Tryd.prog 32 #[.slice A l.length ca] w fun e w' => ∃ vo' vd' os', e = .returned (.agg #[vd', vo', .int .i64 (ballS ([], []) l).2.1, .int .i64 (ballS ([], []) l).2.2]) ∧ BOk M 34 w' vo' vd' os' (ballS ([], []) l).1.2 ∧ absO os' = (ballS ([], []) l).1.1 ∧ Below w.heap.size w w' := by
  have hln := limB_n hlim
  have hlim0 := limB_ok hlim
  simp only [limN] at hln
  refine calls_of_wp Tryd.func32 rfl ?_
  have hfr : Fr [] 82 [(0, .slice A l.length ca)] { tmps := #[.slice A l.length ca] ++ Array.replicate (82 - 1) undef, defers := [] } := fr_entry (args := #[.slice A l.length ca]) (by simp) (fun t ht => by
    rcases t with _ | t
    · exact ⟨by simp, rfl⟩
    · exact absurd ht (by simp [hasK]))
  change Code.wp _ _ _ { tmps := #[.slice A l.length ca] ++ Array.replicate (82 - 1) undef, defers := [] } _
  generalize ({ tmps := #[.slice A l.length ca] ++ Array.replicate (82 - 1) undef, defers := [] } : Act) = a at hfr ⊢
  refine wp_seq (region_rest sxMix fun w1 _ hb1 => ?_)
  refine rest_new (q := 1) (j0 := 0) (ob := (.cells ([.slice none 0 0, .slice none 0 0, .int .i64 0, .int .i64 0] : List Value).toArray 45)) (nl := [(2, ⟪w1.heap.size, 0⟫)]) κ κ (by decide) hfr rfl (.s rfl (st_eq ⟨_, ru_alloc rfl sxTyB, fun d h1 _ => by cases h1; rfl⟩)
    (.z)) (fun a hfr1 => ?_)
  have hWa := own_box (w := w1) (e := 45) (cs := [.slice none 0 0, .slice none 0 0, .int .i64 0, .int .i64 0]) (n := 4) rfl
  have hba : Below w1.heap.size w1 (w1.alloc (.cells ([.slice none 0 0, .slice none 0 0, .int .i64 0, .int .i64 0] : List Value).toArray 45)) := (Below.refl _ w1).alloc (Nat.le_refl _) _
  have hsa : (w1.alloc (.cells ([.slice none 0 0, .slice none 0 0, .int .i64 0, .int .i64 0] : List Value).toArray 45)).heap.size = w1.heap.size + 1 := by simp
  generalize hwa : w1.alloc (.cells ([.slice none 0 0, .slice none 0 0, .int .i64 0, .int .i64 0] : List Value).toArray 45) = wa at *
  refine rest_end κ ?_
  refine wp_seq (region_rest sxMix fun w2 _ hb2 => ?_)
  refine rest_new (q := 2) (j0 := 1) (ob := (.cells ([.slice none 0 0, .slice none 0 0, .int .i64 0, .int .i64 0] : List Value).toArray 45)) (nl := [(8, (.agg ([.slice none 0 0, .slice none 0 0, .int .i64 0, .int .i64 0]).toArray)), (3, ⟪w2.heap.size, 0⟫)]) κ κ (by decide) hfr1 rfl (.s rfl (st_ne (by decide) (δ ru_build rfl κ))
    (.s rfl (st_eq ⟨_, ru_alloc rfl sxTyB, fun d h1 _ => by cases h1; rfl⟩)
    (.z))) (fun a hfr2 => ?_)
  have hRb := own_box (w := w2) (e := 45) (cs := [.slice none 0 0, .slice none 0 0, .int .i64 0, .int .i64 0]) (n := 4) rfl
  have hbb : Below w2.heap.size w2 (w2.alloc (.cells ([.slice none 0 0, .slice none 0 0, .int .i64 0, .int .i64 0] : List Value).toArray 45)) := (Below.refl _ w2).alloc (Nat.le_refl _) _
  have hsb : (w2.alloc (.cells ([.slice none 0 0, .slice none 0 0, .int .i64 0, .int .i64 0] : List Value).toArray 45)).heap.size = w2.heap.size + 1 := by simp
  have hWb := row_next (row_next hWa hb2) hbb
  generalize hwb : w2.alloc (.cells ([.slice none 0 0, .slice none 0 0, .int .i64 0, .int .i64 0] : List Value).toArray 45) = wb at *
  refine rest_store κ κ rfl hfr2 κ rfl (rs_store (vs := [.slice none 0 0, .slice none 0 0, .int .i64 0, .int .i64 0]) rfl κ rfl rfl rfl (by exact one4 rfl rfl rfl rfl) hRb (by simp)) ?_
  rintro wc ⟨hRc, hgc⟩
  have hs2a := hb2.size
  have hw1 := hb1.size
  have hWc := hWb.kept hgc (.inr fun e => by have : w1.heap.size = w2.heap.size := Option.some.inj e; omega)
  refine rest_end κ ?_
  refine wp_seq (wp_seq (region_rest sxMix fun w3 _ hb3 => ?_))
  refine rest_reads (q := 1) (nl := [(4, (.int .i64 (0 : Int)))]) κ κ hfr2 rfl (.s rfl (δ ru_assign rfl rfl)
    (.z)) (fun a hfr3 => ?_)
  refine rest_end κ ?_
  have hW3 := row_next hWc hb3
  have hR3 := row_next hRc hb3
  have hb23 : Below w2.heap.size w2 w3 := (hbb.trans ⟨hgc.os, hgc.tape, hgc.output, hgc.size, fun b hlt => hgc.block b (by omega) fun e => by have : b = w2.heap.size := Option.some.inj e; omega⟩).trans (hb3.mono (by have := hgc.size; omega))
  have hC3 : Below w.heap.size w w3 := hb1.trans ((hba.trans ((hb2.trans (hb23.mono hb2.size)).mono hba.size)).mono hb1.size)
  have hP3 : TIn (fun b => M b ∨ b = w1.heap.size ∨ b = w2.heap.size) w3 w2.heap.size 1 45 4 [.slice none 0 0, .slice none 0 0, .int .i64 0, .int .i64 0] (.slice none 0 0) (.slice none 0 0) [] [] := ⟨BOk.nil _ _ _, fun q hq => by
    have := hb23.size
    have := (hR3.lt _ rfl).2
    rcases hq with hq | rfl | rfl
    · have := hM q hq; omega
    · omega
    · omega, hR3⟩
  have hA3 : 0 < l.length → ∃ a, A = some a ∧ a.block < w.heap.size ∧ ¬ M a.block ∧ ∀ i t, l[i]? = some t → AtA w3 (a.add (i * 6)) (tokC t) := fun h0 => by
    obtain ⟨a, q1, q2, q3, q4⟩ := hA h0
    exact ⟨a, q1, q2, q3, fun i t hi => (q4 i t hi).of_heap (by rw [block_add]; exact hC3.block _ q2)⟩
  have hfrL := hfr3.pick [(0, .slice A l.length ca), (2, ⟪w1.heap.size, 0⟫), (3, ⟪w2.heap.size, 0⟫), (4, .int .i64 ((0 : Nat) : Int))] ⟨⟨rfl, rfl⟩, ⟨rfl, rfl⟩, ⟨rfl, rfl⟩, ⟨rfl, rfl⟩, trivial⟩
  have hw12 : w1.heap.size < w2.heap.size := by omega
  refine wp_block (wp_loop_n (fun m a v => ∃ i vo1 vd1 os1 ds1, m = l.length - i ∧ i ≤ l.length ∧ Fr [] 82 [(0, .slice A l.length ca), (2, ⟪w1.heap.size, 0⟫), (3, ⟪w2.heap.size, 0⟫), (4, .int .i64 ((i : Nat) : Int))] a ∧ TIn (fun b => M b ∨ b = w1.heap.size ∨ b = w2.heap.size) v w2.heap.size 1 45 4 [vd1, vo1, .int .i64 0, .int .i64 0] vo1 vd1 os1 ds1 ∧
      v.ownsRow 0 45 4 (.slice ⌜w1.heap.size⌝ 1 1) 1 [.slice none 0 0, .slice none 0 0, .int .i64 0, .int .i64 0] ∧ ballS (absO os1, ds1) (l.drop i) = ballS ([], []) l ∧ BLim (limN - l.length + i) (absO os1, ds1) ∧ (0 < l.length → ∃ a, A = some a ∧ a.block < w.heap.size ∧ ¬ M a.block ∧ ∀ i t, l[i]? = some t → AtA v (a.add (i * 6)) (tokC t)) ∧
      Below w.heap.size w v ∧ ∀ b, b < w.heap.size → ¬ Foot vo1 vd1 os1 b) l.length ⟨0, _, _, [], [], by omega, Nat.zero_le _, hfrL, hP3, hW3, rfl, hlim0, hA3, hC3, fun b _ hm => by rcases hm with hm | hm | ⟨i, o, hi, _⟩ <;> first | cases hm | simp at hi⟩ ?_)
  clear hfrL hfr3 hfr2 hfr1 hfr hP3 hW3 hA3 hR3 hRc hWc hRb hWb hWa hC3 hb23 hb3 hlim0 hgc hbb hba hb2
  rintro m a v ⟨i, vo1, vd1, os1, ds1, rfl, hi, hfr1, hP, hW, hball, hlim1, hA1, hC, hF⟩
  refine wp_seq (wp_seq (region_rest sxMix fun v1 _ hb1 => ?_))
  refine rest_reads (q := 4) (nl := [(9, (.int .i64 (((i : Nat) : Int)))), (10, (.slice A l.length ca)), (11, (.int .i64 (((l.length : Nat) : Int)))), (12, (.bool (decide (((i : Nat) : Int) < ((l.length : Nat) : Int)))))]) κ κ hfr1 rfl (.s rfl (δ ru_move rfl rfl)
    (.s rfl (δ ru_move rfl rfl)
    (.s rfl (δ ru_len rfl sxUndT rfl)
    (.s rfl (δ ru_lt rfl rfl rfl)
    (.z))))) (fun a hfr2 => ?_)
  refine rest_end κ ?_
  have hP1 := hP.next hb1
  have hW1 := row_next hW hb1
  have hC1 := hC.trans (hb1.mono hC.size)
  by_cases hlt : i < l.length
  · -- a round
    obtain ⟨t0, ht0⟩ : ∃ t0, l[i]? = some t0 := ⟨l[i], List.getElem?_eq_getElem hlt⟩
    have hdr : l.drop i = t0 :: l.drop (i + 1) := by
      obtain ⟨h1, h2⟩ := List.getElem?_eq_some_iff.1 ht0
      rw [List.drop_eq_getElem_cons h1, h2]
    rw [hdr] at hball
    obtain ⟨a0, rfl, ha1, ha2, ha3⟩ := hA1 (by omega)
    refine wp_cond_true ((hfr2.get (t := 12) rfl).trans (by show Value.bool (decide _) = _; rw [decide_eq_true (by omega)])) (wp_skip ?_)
    refine wp_seq (wp_block (wp_seq (region_rest sxMix fun v2 _ hb2 => ?_)))
    have hP2 := hP1.next hb2
    have hW2 := row_next hW1 hb2
    have hC2 := hC1.trans (hb2.mono hC1.size)
    have hat : AtA v2 (a0.add (Int.toNat ((i : Nat) : Int) * 6)) (tokC t0) := by
      have h1 := ha3 i t0 ht0
      rw [show Int.toNat ((i : Nat) : Int) = i by simp]
      exact h1.of_heap (by rw [block_add]; exact (hb2.block _ (Nat.lt_of_lt_of_le ha1 hC1.size)).trans (hb1.block _ (Nat.lt_of_lt_of_le ha1 hC.size)))
    have hsz2 := hC2.size
    refine rest_new (q := 5) (j0 := 4) (ob := (.cells #[.int .i64 0, .string ⟨#[]⟩, .int .i64 0, .int .i64 0, .int .i64 0, .int .i64 0] 32)) (nl := [(15, .slice (some a0) l.length ca), (16, .int .i64 ((i : Nat) : Int)), (17, .pointer (some (a0.add (Int.toNat ((i : Nat) : Int) * 6)))), (18, .agg (tokC t0).toArray), (5, ⟪v2.heap.size, 0⟫)]) κ κ (by decide) hfr2 rfl
      (.s rfl (st_ne (by decide) (δ ru_move rfl rfl)) (.s rfl (st_ne (by decide) (δ ru_move rfl rfl))
      (.s rfl (st_ne (by decide) (δ ru_indexA (sz := 6) rfl sxUndT sxSzT rfl rfl (Int.natCast_nonneg _) (by omega)))
      (.s rfl (st_ne (by decide) (rd_of rfl rfl fun _ hw => ru_loadA rfl sxTyK rfl rfl (hat.of_heap (hw _ (by rw [block_add]; exact Nat.lt_of_lt_of_le ha1 hsz2)))))
      (.s rfl (st_eq ⟨_, ru_alloc rfl sxTyK, fun d h1 _ => by cases h1; rfl⟩) .z))))) (fun a hfr3 => ?_)
    have hN3 := own_box (w := v2) (e := 32) (cs := [.int .i64 0, .string ⟨#[]⟩, .int .i64 0, .int .i64 0, .int .i64 0, .int .i64 0]) (n := 6) rfl
    have hb3 : Below v2.heap.size v2 (v2.alloc (.cells #[.int .i64 0, .string ⟨#[]⟩, .int .i64 0, .int .i64 0, .int .i64 0, .int .i64 0] 32)) := (Below.refl _ v2).alloc (Nat.le_refl _) _
    generalize hv3 : v2.alloc (.cells #[.int .i64 0, .string ⟨#[]⟩, .int .i64 0, .int .i64 0, .int .i64 0, .int .i64 0] 32) = v3 at *
    refine rest_store κ κ rfl hfr3 κ rfl (rs_store (vs := tokC t0) rfl κ rfl rfl rfl (tokC_one t0) hN3 (by simp [tokC])) ?_
    rintro v4 ⟨hB4, hg4⟩
    have hsp4 : splice [.int .i64 0, .string ⟨#[]⟩, .int .i64 0, .int .i64 0, .int .i64 0, .int .i64 0] 0 (tokC t0) = tokC t0 := rfl
    rw [hsp4] at hB4
    have hb4 : Below v2.heap.size v2 v4 := hb3.trans ⟨hg4.os, hg4.tape, hg4.output, hg4.size, fun b hb => hg4.block b (Nat.lt_of_lt_of_le hb hb3.size) (fun e => by have : b = v2.heap.size := Option.some.inj e; omega)⟩
    refine rest_end κ ?_
    have hP4 := hP2.next hb4
    have hW4 := row_next hW2 hb4
    have hC4 := hC2.trans (hb4.mono hC2.size)
    refine wp_seq (region_rest sxMix fun v5 _ hb5 => ?_)
    have hP5 := hP4.next hb5
    have hW5 := row_next hW4 hb5
    have hC5 := hC4.trans (hb5.mono hC4.size)
    have hB5 := row_next hB4 hb5
    refine rest_reads (q := 2) (nl := [(19, ⟪v2.heap.size, 0 + 0⟫), (20, (.int .i64 (t0.1)))]) κ κ hfr3 rfl (.s rfl (δ ru_field (d := 0) rfl κ rfl)
      (.s rfl (rd_of rfl rfl fun _ hw => ru_load rfl sxTyI rfl rfl (At.rd (At.row (cs := [(.int .i64 (t0.1))]) hB5 rfl rfl) (by simp) hw))
      (.z))) (fun a hfr5 => ?_)
    refine rest_end κ ?_
    refine wp_block (wp_seq (region_rest sxMix fun v6 _ hb6 => ?_))
    have hP6 := hP5.next hb6
    have hW6 := row_next hW5 hb6
    have hC6 := hC5.trans (hb6.mono hC5.size)
    have hB6 := row_next hB5 hb6
    refine rest_reads (q := 2) (nl := [(26, (.bool (decide (t0.1 = (1 : Int))))), (25, (.bool (decide (t0.1 = (1 : Int)))))]) κ κ hfr5 rfl (.s rfl (δ ru_eq rfl rfl rfl)
      (.s rfl (δ ru_assign rfl rfl)
      (.z))) (fun a hfr6 => ?_)
    refine rest_end κ ?_
    have hlv2 : w2.heap.size < v2.heap.size := hP2.m _ (.inr (.inr rfl))
    by_cases k1 : t0.1 = 1
    · obtain ⟨Ao, co, rfl⟩ := own_slice hP6.b.o
      refine wp_cond_true ((hfr6.get (t := 25) rfl).trans (by show Value.bool (decide _) = _; rw [decide_eq_true k1])) ?_
      refine wp_seq (wp_seq (region_rest sxMix fun v7 _ hb7 => ?_))
      have hP7 := hP6.next hb7
      have hW7 := row_next hW6 hb7
      have hC7 := hC6.trans (hb7.mono hC6.size)
      have hB7 := row_next hB6 hb7
      refine rest_reads (q := 4) (nl := [(27, ⟪w2.heap.size, 0 + 1⟫), (28, (.slice Ao os1.length co)), (29, (.int .i64 (((os1.length : Nat) : Int)))), (30, (.bool (decide (((os1.length : Nat) : Int) = (1000 : Int)))))]) κ κ hfr6 rfl (.s rfl (δ ru_field (d := 1) rfl κ rfl)
        (.s rfl (rd_of rfl rfl fun _ hw => ru_load rfl sxTyL rfl rfl (At.rd (At.row (cs := [(.slice Ao os1.length co)]) hP7.r rfl rfl) (by simp) hw))
        (.s rfl (δ ru_len rfl sxUnd rfl)
        (.s rfl (δ ru_eq rfl rfl rfl)
        (.z))))) (fun a hfr7 => ?_)
      refine rest_end κ ?_
      by_cases hfull : os1.length = 1000
      · have hbt : btakeS (absO os1, ds1) t0 = .inr (132, t0.2.2.1) := by simp [btakeS, k1, absO_len, hfull]
        refine wp_cond_true ((hfr7.get (t := 30) rfl).trans (by show Value.bool (decide _) = _; rw [decide_eq_true (by omega)])) ?_
        refine wp_seq (region_rest sxMix fun x1 _ hbx1 => ?_)
        have hPx := hP7.next hbx1
        have hWx := row_next hW7 hbx1
        have hCx := hC7.trans (hbx1.mono hC7.size)
        have hBx := row_next hB7 hbx1
        have hatX : At x1 v2.heap.size (0 + 2) [.int .i64 t0.2.2.1] := At.row hBx rfl rfl
        refine rest_one (q := 4) (j1 := 3) (g := w2.heap.size) (nl := [(31, ⟪v2.heap.size, 0 + 2⟫), (32, .int .i64 t0.2.2.1), (33, ⟪w2.heap.size, 0 + 2⟫)]) (fun v => v.ownsRow 0 45 4 (.slice ⌜w2.heap.size⌝ 1 1) 1 [vd1, (.slice Ao os1.length co), .int .i64 0, .int .i64 0]) (fun v => v.ownsRow 0 45 4 (.slice ⌜w2.heap.size⌝ 1 1) 1 [vd1, (.slice Ao os1.length co), .int .i64 132, .int .i64 0]) (fun v => Chg (fun b => b = w2.heap.size) x1 v) κ κ (by decide) hfr7 rfl hPx.r (Chg.refl _ _) (fun v v' h1 h2 => h1.grown h2 rfl)
          (.s rfl (st_ne (by decide) (rk_of rfl rfl fun _ _ => ru_field (d := 2) rfl κ rfl))
          (.s rfl (st_ne (by decide) (rk_of rfl rfl fun _ hw => ru_load rfl sxTyI rfl rfl (hatX.of_heap (Chg.block hw (hBx.lt _ rfl).2 (fun e => by omega)))))
          (.s rfl (st_ne (by decide) (rk_of rfl rfl fun _ _ => ru_field (d := 2) rfl κ rfl))
          (.s rfl (st_eq ⟨rfl, fun v h1 => rs_store (k := 0 + 2) (vs := [.int .i64 132]) rfl κ rfl rfl rfl (by simp [Value.oneCell']) h1 (by simp)⟩) .z)))) (fun a x2 hfrX hrx hcx => ?_)
        refine rest_reads (q := 5) (nl := [(34, ⟪w2.heap.size, 0 + 3⟫)]) κ κ hfrX rfl (.s rfl (δ ru_field (d := 3) rfl κ rfl) .z) (fun a hfrY => ?_)
        refine rest_store κ κ rfl hfrY κ rfl (rs_store (vs := [.int .i64 t0.2.2.1]) rfl κ rfl rfl rfl (by simp [Value.oneCell']) hrx (by simp)) ?_
        rintro x3 ⟨hr3, hg3⟩
        have hr3 : x3.ownsRow 0 45 4 (.slice ⌜w2.heap.size⌝ 1 1) 1 [vd1, (.slice Ao os1.length co), .int .i64 132, .int .i64 t0.2.2.1] := hr3
        have hc3 := hcx.grown hg3 rfl
        refine rest_end κ ?_
        refine wp_seq (region_rest sxMix fun x4 _ hbx4 => ?_)
        have hr4 := row_next hr3 hbx4
        have hc4 : Chg (fun b => b = w2.heap.size) x1 x4 := hc3.then (Chg.below (S := fun _ => False) hbx4) fun b _ e => e.elim
        have hW4 : x4.ownsRow 0 45 4 (.slice ⌜w1.heap.size⌝ 1 1) 1 [.slice none 0 0, .slice none 0 0, .int .i64 0, .int .i64 0] := ownsRow_same hWx fun b hb => by
          have : w1.heap.size = b := Option.some.inj hb
          exact Chg.block hc4 (hWx.lt _ hb).2 fun e => by omega
        have hvo1 : Value.oneCell' (.slice Ao os1.length co) = true := rfl
        have hvd1 : Value.oneCell' vd1 = true := by obtain ⟨_, hz, _⟩ := hPx.b.d; obtain ⟨_, _, rfl⟩ := own_slice hz; rfl
        refine rest_reads (q := 1) (nl := [(35, .agg #[vd1, (.slice Ao os1.length co), .int .i64 132, .int .i64 t0.2.2.1])]) κ κ hfrY rfl (.s rfl (rd_of rfl rfl fun _ hw => ru_load rfl sxTyB rfl rfl (At.rd (cs := [vd1, (.slice Ao os1.length co), .int .i64 132, .int .i64 t0.2.2.1]) (At.all hr4) (by simp) hw)) .z) (fun a hfrZ => ?_)
        refine rest_store κ κ rfl hfrZ κ rfl (rs_store (vs := [vd1, (.slice Ao os1.length co), .int .i64 132, .int .i64 t0.2.2.1]) rfl κ rfl rfl rfl (by exact one4 hvd1 hvo1 rfl rfl) hW4 (by simp)) ?_
        rintro x5 ⟨hZz, hgz⟩
        refine rest_end κ ?_
        refine wp_ret ?_
        simp only [Exit.then, Exit.inBlock]
        have hcy : Chg (fun b => b = w1.heap.size ∨ b = w2.heap.size) x1 x5 := (hc4.mono fun b e => .inr e).then (Chg.grown' hgz) fun b _ e => .inl (Option.some.inj e).symm
        have hcz : Chg (fun b => M b ∨ b = w1.heap.size ∨ b = w2.heap.size) x1 x5 := hcy.mono fun b e => .inr e
        simp only [ballS, hbt] at hball
        refine post_ret_cell (t := 2) rfl sxTyB rfl (hfrZ.get (t := 2) rfl) (At.all hZz) hfrZ.1 ⟨(.slice Ao os1.length co), vd1, os1, by rw [← hball]; rfl, by rw [← hball]; exact push_out hPx.b (w' := x5) ⟨Beyond.size hcz, fun b hlt hm => Chg.block hcz hlt hm⟩, by rw [← hball], hCx.trans ⟨Beyond.os hcy, Beyond.tape hcy, Beyond.output hcy, Beyond.size hcy, fun b hlt => Chg.block hcy (Nat.lt_of_lt_of_le hlt hCx.size) fun e => ?_⟩⟩
        omega
      · refine wp_cond_false ((hfr7.get (t := 30) rfl).trans (by show Value.bool (decide _) = _; rw [decide_eq_false (by omega)])) (wp_skip ?_)
        refine region_rest sxMix fun v8 _ hb8 => ?_
        have hP8 := hP7.next hb8
        have hW8 := row_next hW7 hb8
        have hC8 := hC7.trans (hb8.mono hC7.size)
        have hB8 := row_next hB7 hb8
        refine rest_new (q := 11) (j0 := 10) (ob := (.cells (tokC (openTok t0) ++ [Value.slice none 0 0]).toArray 34)) (nl := [(36, ⟪w2.heap.size, 0 + 1⟫), (37, (.slice Ao os1.length co)), (38, ⟪v2.heap.size, 0 + 2⟫), (39, (.int .i64 (t0.2.2.1))), (40, ⟪v2.heap.size, 0 + 4⟫), (41, (.int .i64 (t0.2.2.2.2.1))), (42, ⟪v2.heap.size, 0 + 5⟫), (43, (.int .i64 (t0.2.2.2.2.2))), (44, (.agg (tokC (openTok t0)).toArray)), (45, (.agg ((tokC (openTok t0) ++ [Value.slice none 0 0])).toArray)), (46, (.slice ⌜v8.heap.size⌝ 1 1))]) κ κ (by decide) hfr7 rfl (.s rfl (st_ne (by decide) (δ ru_field (d := 1) rfl κ rfl))
          (.s rfl (st_ne (by decide) (rd_of rfl rfl fun _ hw => ru_load rfl sxTyL rfl rfl (At.rd (At.row (cs := [(.slice Ao os1.length co)]) hP8.r rfl rfl) (by simp) hw)))
          (.s rfl (st_ne (by decide) (δ ru_field (d := 2) rfl κ rfl))
          (.s rfl (st_ne (by decide) (rd_of rfl rfl fun _ hw => ru_load rfl sxTyI rfl rfl (At.rd (At.row (cs := [(.int .i64 (t0.2.2.1))]) hB8 rfl rfl) (by simp) hw)))
          (.s rfl (st_ne (by decide) (δ ru_field (d := 4) rfl κ rfl))
          (.s rfl (st_ne (by decide) (rd_of rfl rfl fun _ hw => ru_load rfl sxTyI rfl rfl (At.rd (At.row (cs := [(.int .i64 (t0.2.2.2.2.1))]) hB8 rfl rfl) (by simp) hw)))
          (.s rfl (st_ne (by decide) (δ ru_field (d := 5) rfl κ rfl))
          (.s rfl (st_ne (by decide) (rd_of rfl rfl fun _ hw => ru_load rfl sxTyI rfl rfl (At.rd (At.row (cs := [(.int .i64 (t0.2.2.2.2.2))]) hB8 rfl rfl) (by simp) hw)))
          (.s rfl (st_ne (by decide) (δ ru_build rfl κ))
          (.s rfl (st_ne (by decide) (δ ru_build rfl κ))
          (.s rfl (st_eq ⟨_, ru_bslice rfl sxUnd sxInfo rfl (by decide) (by decide) rfl rfl, fun d h1 _ => by cases h1; rfl⟩)
          (.z)))))))))))) (fun a hfr8 => ?_)
        have hS9 := own_box (w := v8) (e := 34) (cs := (tokC (openTok t0) ++ [Value.slice none 0 0])) (n := 7) rfl
        have hb9 : Below v8.heap.size v8 (v8.alloc (.cells (tokC (openTok t0) ++ [Value.slice none 0 0]).toArray 34)) := (Below.refl _ v8).alloc (Nat.le_refl _) _
        generalize hv9 : v8.alloc (.cells (tokC (openTok t0) ++ [Value.slice none 0 0]).toArray 34) = v9 at *
        have hP9 := hP8.next hb9
        have hW9 := row_next hW8 hb9
        have hC9 := hC8.trans (hb9.mono hC8.size)
        have hB9 := row_next hB8 hb9
        have hl9 := hP9.b.o.1
        have hlo := hlim1.2.1
        rw [absO_len] at hlo
        obtain ⟨i0, hi0, hi1, hi2, hi3⟩ := sxInfo3
        refine rest_app κ κ rfl hfr8 κ rfl (ru_append rfl sxUnd hi0 hi1 hi2 hi3 rfl (by decide) rfl rfl hP9.b.o rfl (At.all hS9) (tok_one _ _ rfl) (by simp only [maxLen]; omega) (by omega)) ?_
        rintro v' v10 a ⟨hv, hgr, hvb⟩ hfr9
        obtain ⟨gv, cv, rfl⟩ := own_form hv (Nat.succ_pos _)
        have hAM : ∀ b, ((Value.slice Ao os1.length co)).ownBlock = some b → ¬ (M b ∨ b = w1.heap.size ∨ b = w2.heap.size) := fun b e => hP9.b.m b (.inl e)
        have hgR : gv ≠ w2.heap.size := by
          rintro rfl
          rcases hvb with e | e
          · exact hAM _ e.symm (.inr (.inr rfl))
          · have e : w2.heap.size = v9.heap.size := Option.some.inj e
            have := hP9.m _ (.inr (.inr rfl)); omega
        have hr10 := hP9.r.kept hgr (.inr fun e => hAM _ e.symm (.inr (.inr rfl)))
        have hW10 := hW9.kept hgr (.inr fun e => hAM _ e.symm (.inr (.inl rfl)))
        refine rest_reads (q := 13) (nl := [(48, ⟪w2.heap.size, 0 + 1⟫)]) κ κ hfr9 rfl (.s rfl (δ ru_field (d := 1) rfl κ rfl)
          (.z)) (fun a hfr10 => ?_)
        refine rest_store κ κ rfl hfr10 κ rfl (rs_store (vs := [(Value.slice ⌜gv⌝ (os1.length + 1) cv)]) rfl κ rfl rfl rfl (by simp [Value.oneCell']) hr10 (by simp)) ?_
        rintro v11 ⟨hr11, hg11⟩
        have hr11 : v11.ownsRow 0 45 4 (.slice ⌜w2.heap.size⌝ 1 1) 1 [vd1, (Value.slice ⌜gv⌝ (os1.length + 1) cv), .int .i64 0, .int .i64 0] := hr11
        have hv11 := hv.kept hg11 (.inr fun e => hgR (Option.some.inj e))
        have hW11 := hW10.kept hg11 (.inr fun e => by have : w1.heap.size = w2.heap.size := Option.some.inj e; omega)
        refine rest_end κ ?_
        have hout : Out (fun b => M b ∨ b = w1.heap.size ∨ b = w2.heap.size) (fun b => ((Value.slice Ao os1.length co)).ownBlock = some b) v9 v11 := ⟨Nat.le_trans hgr.size hg11.size, fun b hlt hm hx => (hg11.block b (Nat.lt_of_lt_of_le hlt hgr.size) fun e => hm (.inr (.inr (Option.some.inj e)))).trans (hgr.block b hlt fun e => hx e.symm)⟩
        have hP11 : TIn (fun b => M b ∨ b = w1.heap.size ∨ b = w2.heap.size) v11 w2.heap.size 1 45 4 [vd1, (Value.slice ⌜gv⌝ (os1.length + 1) cv), .int .i64 0, .int .i64 0] (Value.slice ⌜gv⌝ (os1.length + 1) cv) vd1 (os1 ++ [⟨openTok t0, .slice none 0 0, []⟩]) ds1 := ⟨hP9.b.opened hP9.m hv11 hout hvb, fun q hq => Nat.lt_of_lt_of_le (hP9.m q hq) (Nat.le_trans hgr.size hg11.size), hr11⟩
        have hC11 : Below w.heap.size w v11 := hC9.trans ⟨hg11.os.trans hgr.os, hg11.tape.trans hgr.tape, hg11.output.trans hgr.output, Nat.le_trans hgr.size hg11.size, fun b hlt => (hg11.block b (Nat.lt_of_lt_of_le hlt (Nat.le_trans hC9.size hgr.size)) fun e => by have : b = w2.heap.size := Option.some.inj e; omega).trans (hgr.block b (Nat.lt_of_lt_of_le hlt hC9.size) fun e => hF b hlt (.inl e.symm))⟩
        have hF11 : ∀ b, b < w.heap.size → ¬ Foot (Value.slice ⌜gv⌝ (os1.length + 1) cv) vd1 (os1 ++ [⟨openTok t0, .slice none 0 0, []⟩]) b := fun b hlt hf => hF b hlt (foot_opened hvb hC9.size b hlt hf)
        have hbt : btakeS (absO os1, ds1) t0 = .inl (absO (os1 ++ [⟨openTok t0, .slice none 0 0, []⟩]), ds1) := by simp [btakeS, k1, absO_len, hfull, absO_snoc]
        simp only [Exit.then, Exit.inBlock]
        refine region_rest sxMix fun vr _ hbr => ?_
        refine rest_reads (q := 2) (nl := [(13, (.int .i64 (((i : Nat) : Int)))), (14, (.int .i64 (IntKind.i64.wrap (((i : Nat) : Int) + (1 : Int)))))]) κ κ hfr10 rfl (.s rfl (δ ru_move rfl rfl)
          (.s rfl (δ ru_add rfl rfl rfl)
          (.z))) (fun a hfrQ => ?_)
        refine rest_reads (q := 3) (nl := [(4, (.int .i64 (IntKind.i64.wrap (((i : Nat) : Int) + (1 : Int)))))]) κ κ hfrQ rfl (.s rfl (δ ru_assign rfl rfl)
          (.z)) (fun a hfrR => ?_)
        refine rest_end κ ?_
        have hwi : IntKind.i64.wrap (((i : Nat) : Int) + (1 : Int)) = ((i + 1 : Nat) : Int) := by rw [show (((i : Nat) : Int) + (1 : Int)) = ((i + 1 : Nat) : Int) by omega]; exact wrap_small (by omega) (by omega)
        simp only [Exit.then]
        refine ⟨l.length - (i + 1), by omega, i + 1, _, _, _, _, rfl, by omega, hfrR.pick _ ⟨⟨rfl, rfl⟩, ⟨rfl, rfl⟩, ⟨rfl, rfl⟩, ⟨rfl, by rw [← hwi]; rfl⟩, trivial⟩, hP11.next hbr, row_next hW11 hbr, ?_, ?_, fun _ => ⟨a0, rfl, ha1, ha2, fun j t hj => ?_⟩, hC11.trans (hbr.mono hC11.size), hF11⟩
        · simp only [ballS, hbt] at hball
          exact hball
        · have := hlim1.take hbt
          exact this
        · refine (ha3 j t hj).of_heap ?_
          rw [block_add]
          exact ((hC11.trans (hbr.mono hC11.size)).block _ ha1).trans (hC.block _ ha1).symm
    · refine wp_cond_false ((hfr6.get (t := 25) rfl).trans (by show Value.bool (decide _) = _; rw [decide_eq_false k1])) ?_
      refine wp_seq (region_rest sxMix fun v7 _ hb7 => ?_)
      have hP7 := hP6.next hb7
      have hW7 := row_next hW6 hb7
      have hC7 := hC6.trans (hb7.mono hC6.size)
      have hB7 := row_next hB6 hb7
      refine rest_reads (q := 2) (nl := [(50, (.bool (decide (t0.1 = (2 : Int))))), (49, (.bool (decide (t0.1 = (2 : Int)))))]) κ κ hfr6 rfl (.s rfl (δ ru_eq rfl rfl rfl)
        (.s rfl (δ ru_assign rfl rfl)
        (.z))) (fun a hfr7 => ?_)
      refine rest_end κ ?_
      by_cases k2 : t0.1 = 2
      · refine wp_cond_true ((hfr7.get (t := 49) rfl).trans (by show Value.bool (decide _) = _; rw [decide_eq_true k2])) ?_
        rcases List.eq_nil_or_concat os1 with rfl | ⟨os, p, rfl⟩
        · obtain ⟨Ao, co, rfl⟩ := own_slice hP7.b.o
          refine wp_seq (wp_seq (region_rest sxMix fun v8 _ hb8 => ?_))
          have hP8 := hP7.next hb8
          have hW8 := row_next hW7 hb8
          have hC8 := hC7.trans (hb8.mono hC7.size)
          have hB8 := row_next hB7 hb8
          refine rest_reads (q := 4) (nl := [(51, ⟪w2.heap.size, 0 + 1⟫), (52, (.slice Ao 0 co)), (53, (.int .i64 (((0 : Nat) : Int)))), (54, (.bool (decide (((0 : Nat) : Int) = (0 : Int)))))]) κ κ hfr7 rfl (.s rfl (δ ru_field (d := 1) rfl κ rfl)
            (.s rfl (rd_of rfl rfl fun _ hw => ru_load rfl sxTyL rfl rfl (At.rd (At.row (cs := [(.slice Ao 0 co)]) hP8.r rfl rfl) (by simp) hw))
            (.s rfl (δ ru_len rfl sxUnd rfl)
            (.s rfl (δ ru_eq rfl rfl rfl)
            (.z))))) (fun a hfr8 => ?_)
          refine rest_end κ ?_
          have hbt : btakeS (absO [], ds1) t0 = .inr (130, t0.2.2.1) := by simp [btakeS, k2, absO_nil]
          refine wp_cond_true ((hfr8.get (t := 54) rfl).trans (by show Value.bool (decide _) = _; simp)) ?_
          refine wp_seq (region_rest sxMix fun x1 _ hbx1 => ?_)
          have hPx := hP8.next hbx1
          have hWx := row_next hW8 hbx1
          have hCx := hC8.trans (hbx1.mono hC8.size)
          have hBx := row_next hB8 hbx1
          have hatX : At x1 v2.heap.size (0 + 2) [.int .i64 t0.2.2.1] := At.row hBx rfl rfl
          refine rest_one (q := 4) (j1 := 3) (g := w2.heap.size) (nl := [(55, ⟪v2.heap.size, 0 + 2⟫), (56, .int .i64 t0.2.2.1), (57, ⟪w2.heap.size, 0 + 2⟫)]) (fun v => v.ownsRow 0 45 4 (.slice ⌜w2.heap.size⌝ 1 1) 1 [vd1, (.slice Ao 0 co), .int .i64 0, .int .i64 0]) (fun v => v.ownsRow 0 45 4 (.slice ⌜w2.heap.size⌝ 1 1) 1 [vd1, (.slice Ao 0 co), .int .i64 130, .int .i64 0]) (fun v => Chg (fun b => b = w2.heap.size) x1 v) κ κ (by decide) hfr8 rfl hPx.r (Chg.refl _ _) (fun v v' h1 h2 => h1.grown h2 rfl)
            (.s rfl (st_ne (by decide) (rk_of rfl rfl fun _ _ => ru_field (d := 2) rfl κ rfl))
            (.s rfl (st_ne (by decide) (rk_of rfl rfl fun _ hw => ru_load rfl sxTyI rfl rfl (hatX.of_heap (Chg.block hw (hBx.lt _ rfl).2 (fun e => by omega)))))
            (.s rfl (st_ne (by decide) (rk_of rfl rfl fun _ _ => ru_field (d := 2) rfl κ rfl))
            (.s rfl (st_eq ⟨rfl, fun v h1 => rs_store (k := 0 + 2) (vs := [.int .i64 130]) rfl κ rfl rfl rfl (by simp [Value.oneCell']) h1 (by simp)⟩) .z)))) (fun a x2 hfrX hrx hcx => ?_)
          refine rest_reads (q := 5) (nl := [(58, ⟪w2.heap.size, 0 + 3⟫)]) κ κ hfrX rfl (.s rfl (δ ru_field (d := 3) rfl κ rfl) .z) (fun a hfrY => ?_)
          refine rest_store κ κ rfl hfrY κ rfl (rs_store (vs := [.int .i64 t0.2.2.1]) rfl κ rfl rfl rfl (by simp [Value.oneCell']) hrx (by simp)) ?_
          rintro x3 ⟨hr3, hg3⟩
          have hr3 : x3.ownsRow 0 45 4 (.slice ⌜w2.heap.size⌝ 1 1) 1 [vd1, (.slice Ao 0 co), .int .i64 130, .int .i64 t0.2.2.1] := hr3
          have hc3 := hcx.grown hg3 rfl
          refine rest_end κ ?_
          refine wp_seq (region_rest sxMix fun x4 _ hbx4 => ?_)
          have hr4 := row_next hr3 hbx4
          have hc4 : Chg (fun b => b = w2.heap.size) x1 x4 := hc3.then (Chg.below (S := fun _ => False) hbx4) fun b _ e => e.elim
          have hW4 : x4.ownsRow 0 45 4 (.slice ⌜w1.heap.size⌝ 1 1) 1 [.slice none 0 0, .slice none 0 0, .int .i64 0, .int .i64 0] := ownsRow_same hWx fun b hb => by
            have : w1.heap.size = b := Option.some.inj hb
            exact Chg.block hc4 (hWx.lt _ hb).2 fun e => by omega
          have hvo1 : Value.oneCell' (.slice Ao 0 co) = true := rfl
          have hvd1 : Value.oneCell' vd1 = true := by obtain ⟨_, hz, _⟩ := hPx.b.d; obtain ⟨_, _, rfl⟩ := own_slice hz; rfl
          refine rest_reads (q := 1) (nl := [(59, .agg #[vd1, (.slice Ao 0 co), .int .i64 130, .int .i64 t0.2.2.1])]) κ κ hfrY rfl (.s rfl (rd_of rfl rfl fun _ hw => ru_load rfl sxTyB rfl rfl (At.rd (cs := [vd1, (.slice Ao 0 co), .int .i64 130, .int .i64 t0.2.2.1]) (At.all hr4) (by simp) hw)) .z) (fun a hfrZ => ?_)
          refine rest_store κ κ rfl hfrZ κ rfl (rs_store (vs := [vd1, (.slice Ao 0 co), .int .i64 130, .int .i64 t0.2.2.1]) rfl κ rfl rfl rfl (by exact one4 hvd1 hvo1 rfl rfl) hW4 (by simp)) ?_
          rintro x5 ⟨hZz, hgz⟩
          refine rest_end κ ?_
          refine wp_ret ?_
          simp only [Exit.then, Exit.inBlock]
          have hcy : Chg (fun b => b = w1.heap.size ∨ b = w2.heap.size) x1 x5 := (hc4.mono fun b e => .inr e).then (Chg.grown' hgz) fun b _ e => .inl (Option.some.inj e).symm
          have hcz : Chg (fun b => M b ∨ b = w1.heap.size ∨ b = w2.heap.size) x1 x5 := hcy.mono fun b e => .inr e
          simp only [ballS, hbt] at hball
          refine post_ret_cell (t := 2) rfl sxTyB rfl (hfrZ.get (t := 2) rfl) (At.all hZz) hfrZ.1 ⟨(.slice Ao 0 co), vd1, [], by rw [← hball]; rfl, by rw [← hball]; exact push_out hPx.b (w' := x5) ⟨Beyond.size hcz, fun b hlt hm => Chg.block hcz hlt hm⟩, by rw [← hball], hCx.trans ⟨Beyond.os hcy, Beyond.tape hcy, Beyond.output hcy, Beyond.size hcy, fun b hlt => Chg.block hcy (Nat.lt_of_lt_of_le hlt hCx.size) fun e => ?_⟩⟩
          omega
        · rw [List.concat_eq_append] at *
          have hol : (os ++ [p]).length = os.length + 1 := by simp
          have ho := hP7.b.o
          rw [hol] at ho
          obtain ⟨g, co, rfl⟩ := own_form ho (Nat.succ_pos _)
          have hco : os.length + 1 ≤ co := by
            rcases ho.2 with ⟨h0, _⟩ | ⟨_, _, _, h0, _, _, h1, _⟩
            · cases h0
            · cases h0; exact h1
          have hll := hlim1.2.1
          rw [absO_len, hol] at hll
          have hwr : IntKind.i64.wrap (((os.length + 1 : Nat) : Int) - (1 : Int)) = (os.length : Int) := by
            rw [show (((os.length + 1 : Nat) : Int) - (1 : Int)) = (os.length : Int) by omega]
            exact wrap_small (by omega) (by omega)
          have hof : 0 + Int.toNat (IntKind.i64.wrap (((os.length + 1 : Nat) : Int) - (1 : Int))) * 7 = os.length * 7 := by rw [hwr]; simp
          refine wp_seq (wp_seq (region_rest sxMix fun v8 _ hb8 => ?_))
          have hP8 := hP7.next hb8
          have hW8 := row_next hW7 hb8
          have hC8 := hC7.trans (hb8.mono hC7.size)
          have hB8 := row_next hB7 hb8
          refine rest_reads (q := 4) (nl := [(51, ⟪w2.heap.size, 0 + 1⟫), (52, (.slice ⌜g⌝ (os.length + 1) co)), (53, (.int .i64 ((((os.length + 1) : Nat) : Int)))), (54, (.bool (decide ((((os.length + 1) : Nat) : Int) = (0 : Int)))))]) κ κ hfr7 rfl (.s rfl (δ ru_field (d := 1) rfl κ rfl)
            (.s rfl (rd_of rfl rfl fun _ hw => ru_load rfl sxTyL rfl rfl (At.rd (At.row (cs := [(.slice ⌜g⌝ (os.length + 1) co)]) hP8.r rfl rfl) (by simp) hw))
            (.s rfl (δ ru_len rfl sxUnd rfl)
            (.s rfl (δ ru_eq rfl rfl rfl)
            (.z))))) (fun a hfr8 => ?_)
          refine rest_end κ ?_
          refine wp_cond_false ((hfr8.get (t := 54) rfl).trans (by show Value.bool (decide _) = _; rw [decide_eq_false (by omega)])) (wp_skip ?_)
          refine wp_seq (region_rest sxMix fun v9 _ hb9 => ?_)
          have hP9 := hP8.next hb9
          have hW9 := row_next hW8 hb9
          have hC9 := hC8.trans (hb9.mono hC8.size)
          have hB9 := row_next hB8 hb9
          refine rest_reads (q := 5) (nl := [(60, ⟪w2.heap.size, 0 + 1⟫), (61, (.slice ⌜g⌝ (os.length + 1) co)), (62, (.int .i64 ((((os.length + 1) : Nat) : Int)))), (63, (.int .i64 (IntKind.i64.wrap ((((os.length + 1) : Nat) : Int) - (1 : Int))))), (6, (.int .i64 (IntKind.i64.wrap ((((os.length + 1) : Nat) : Int) - (1 : Int)))))]) κ κ hfr8 rfl (.s rfl (δ ru_field (d := 1) rfl κ rfl)
            (.s rfl (rd_of rfl rfl fun _ hw => ru_load rfl sxTyL rfl rfl (At.rd (At.row (cs := [(.slice ⌜g⌝ (os.length + 1) co)]) hP9.r rfl rfl) (by simp) hw))
            (.s rfl (δ ru_len rfl sxUnd rfl)
            (.s rfl (δ ru_sub rfl rfl rfl)
            (.s rfl (δ ru_assign rfl rfl)
            (.z)))))) (fun a hfr9 => ?_)
          refine rest_end κ ?_
          refine wp_seq (region_rest sxMix fun v10 _ hb10 => ?_)
          have hP10 := hP9.next hb10
          have hW10 := row_next hW9 hb10
          have hC10 := hC9.trans (hb10.mono hC9.size)
          have hB10 := row_next hB9 hb10
          have ho10 := hP10.b.o
          rw [hol] at ho10
          have hatN : At v10 g (0 + Int.toNat (IntKind.i64.wrap ((((os.length + 1) : Nat) : Int) - (1 : Int))) * 7) (opC p) := At.row ho10 rfl (by rw [hof]; exact last_row)
          refine rest_new (q := 6) (j0 := 5) (ob := (.cells zCells.toArray 34)) (nl := [(64, ⟪w2.heap.size, 0 + 1⟫), (65, (.slice ⌜g⌝ (os.length + 1) co)), (66, (.int .i64 (IntKind.i64.wrap ((((os.length + 1) : Nat) : Int) - (1 : Int))))), (67, ⟪g, 0 + Int.toNat (IntKind.i64.wrap ((((os.length + 1) : Nat) : Int) - (1 : Int))) * 7⟫), (68, (.agg (tokC p.t ++ [p.v]).toArray)), (7, ⟪v10.heap.size, 0⟫)]) κ κ (by decide) hfr9 rfl (.s rfl (st_ne (by decide) (δ ru_field (d := 1) rfl κ rfl))
            (.s rfl (st_ne (by decide) (rd_of rfl rfl fun _ hw => ru_load rfl sxTyL rfl rfl (At.rd (At.row (cs := [(.slice ⌜g⌝ (os.length + 1) co)]) hP10.r rfl rfl) (by simp) hw)))
            (.s rfl (st_ne (by decide) (δ ru_move rfl rfl))
            (.s rfl (st_ne (by decide) (δ ru_index (sz := 7) rfl sxUnd sxSz rfl rfl (by rw [hwr]; omega) (by rw [hwr]; omega)))
            (.s rfl (st_ne (by decide) (rd_of rfl rfl fun _ hw => ru_load rfl sxTyN rfl rfl (At.rd hatN (by simp [tokC]) hw)))
            (.s rfl (st_eq ⟨_, ru_alloc rfl sxTyN, fun d h1 _ => by cases h1; rfl⟩)
            (.z))))))) (fun a hfr10 => ?_)
          have hN11 := own_box (w := v10) (e := 34) (cs := zCells) (n := 7) rfl
          have hb11 : Below v10.heap.size v10 (v10.alloc (.cells zCells.toArray 34)) := (Below.refl _ v10).alloc (Nat.le_refl _) _
          have hsz11 : v10.heap.size < (v10.alloc (.cells zCells.toArray 34)).heap.size := by simp
          generalize hv11 : v10.alloc (.cells zCells.toArray 34) = v11 at *
          have hB10s := (hB10.lt v2.heap.size rfl).2
          refine rest_store κ κ rfl hfr10 κ rfl (rs_store (vs := tokC p.t ++ [p.v]) rfl κ rfl rfl rfl (tok_one _ _ (hP10.b.one snoc_last)) hN11 (by simp [zCells, tokC])) ?_
          rintro v12 ⟨hN12, hg12⟩
          have hsp12 : splice zCells 0 (tokC p.t ++ [p.v]) = tokC p.t ++ [p.v] := rfl
          rw [hsp12] at hN12
          have hb12 : Below v10.heap.size v10 v12 := hb11.trans ⟨hg12.os, hg12.tape, hg12.output, hg12.size, fun b hb => hg12.block b (Nat.lt_trans hb hsz11) (fun e => by have : b = v10.heap.size := Option.some.inj e; omega)⟩
          refine rest_end κ ?_
          refine wp_seq (region_rest sxMix fun v13 _ hb13 => ?_)
          have hb13' : Below v10.heap.size v10 v13 := hb12.trans (hb13.mono hb12.size)
          have hN13 := row_next hN12 hb13
          have hB13 := row_next hB10 hb13'
          refine rest_reads (q := 4) (nl := [(69, ⟪v2.heap.size, 0 + 3⟫), (70, (.int .i64 (t0.2.2.2.1))), (71, ⟪v10.heap.size, 0 + 0⟫), (72, ⟪v10.heap.size, 0 + 0 + 3⟫)]) κ κ hfr10 rfl (.s rfl (δ ru_field (d := 3) rfl κ rfl)
            (.s rfl (rd_of rfl rfl fun _ hw => ru_load rfl sxTyI rfl rfl (At.rd (At.row (cs := [(.int .i64 (t0.2.2.2.1))]) hB13 rfl rfl) (by simp) hw))
            (.s rfl (δ ru_field (d := 0) rfl κ rfl)
            (.s rfl (δ ru_field (d := 3) rfl κ rfl)
            (.z))))) (fun a hfr11 => ?_)
          refine rest_store κ κ rfl hfr11 κ rfl (rs_store (vs := [.int .i64 t0.2.2.2.1]) rfl κ rfl rfl rfl (by simp [Value.oneCell']) hN13 (show 0 + 0 + 3 + 1 ≤ 7 by decide)) ?_
          rintro v14 ⟨hN14, hg14⟩
          have hsp14 : splice (tokC p.t ++ [p.v]) (0 + 0 + 3) [.int .i64 t0.2.2.2.1] = tokC (endTok p.t t0) ++ [p.v] := rfl
          rw [hsp14] at hN14
          have hb14 : Below v10.heap.size v10 v14 := hb13'.trans ⟨hg14.os, hg14.tape, hg14.output, hg14.size, fun b hb => hg14.block b (Nat.lt_of_lt_of_le hb hb13'.size) (fun e => by have : b = v10.heap.size := Option.some.inj e; omega)⟩
          refine rest_end κ ?_
          refine wp_seq (region_rest sxMix fun v15 _ hbx => ?_)
          have hb15 : Below v10.heap.size v10 v15 := hb14.trans (hbx.mono hb14.size)
          have hP15 := hP10.next hb15
          have hW15 := row_next hW10 hb15
          have hC15 := hC10.trans (hb15.mono hC10.size)
          have hB15 := row_next hB10 hb15
          have hN15 := row_next hN14 hbx
          refine rest_reads (q := 5) (nl := [(73, ⟪w2.heap.size, 0 + 1⟫), (74, (.slice ⌜g⌝ (os.length + 1) co)), (75, (.int .i64 (IntKind.i64.wrap ((((os.length + 1) : Nat) : Int) - (1 : Int))))), (76, (.slice ⌜g⌝ (Int.toNat (IntKind.i64.wrap ((((os.length + 1) : Nat) : Int) - (1 : Int)))) co)), (77, ⟪w2.heap.size, 0 + 1⟫)]) κ κ hfr11 rfl (.s rfl (δ ru_field (d := 1) rfl κ rfl)
            (.s rfl (rd_of rfl rfl fun _ hw => ru_load rfl sxTyL rfl rfl (At.rd (At.row (cs := [(.slice ⌜g⌝ (os.length + 1) co)]) hP15.r rfl rfl) (by simp) hw))
            (.s rfl (δ ru_move rfl rfl)
            (.s rfl (δ ru_cut rfl sxUnd κ rfl rfl (by rw [hwr]; omega) (by rw [hwr]; omega))
            (.s rfl (δ ru_field (d := 1) rfl κ rfl)
            (.z)))))) (fun a hfr12 => ?_)
          refine rest_store κ κ rfl hfr12 κ rfl (rs_store (vs := [.slice ⌜g⌝ (Int.toNat (IntKind.i64.wrap ((((os.length + 1) : Nat) : Int) - (1 : Int)))) co]) rfl κ rfl rfl rfl (by simp [Value.oneCell']) hP15.r (by simp)) ?_
          rintro v16 ⟨hr16, hg16⟩
          rw [hwr] at hr16
          have hcut : Int.toNat (os.length : Int) = os.length := by simp
          rw [hcut] at hr16
          have hr16 : v16.ownsRow 0 45 4 (.slice ⌜w2.heap.size⌝ 1 1) 1 [vd1, (Value.slice ⌜g⌝ os.length co), .int .i64 0, .int .i64 0] := hr16
          have hN16 := hN15.kept hg16 (.inr fun e => by have : v10.heap.size = w2.heap.size := Option.some.inj e; have := hP10.m _ (.inr (.inr rfl)); omega)
          have hW16 := hW15.kept hg16 (.inr fun e => by have : w1.heap.size = w2.heap.size := Option.some.inj e; omega)
          refine rest_end κ ?_
          refine region_rest sxMix fun v17 _ hb17 => ?_
          have hr17 := row_next hr16 hb17
          have hN17 := row_next hN16 hb17
          have hW17 := row_next hW16 hb17
          have hA17 : Agree (fun b => M b ∨ b = w1.heap.size ∨ b = w2.heap.size) v15 v17 := ⟨Nat.le_trans hg16.size hb17.size, fun b hlt hm => (hb17.block b (Nat.lt_of_lt_of_le hlt hg16.size)).trans (hg16.block b hlt fun e => hm (.inr (.inr (Option.some.inj e))))⟩
          obtain ⟨hpop, hnode⟩ := (hP15.b.next hA17 (fun _ _ h => h)).pop (endTok p.t t0)
          have hC17 : Below w.heap.size w v17 := hC15.trans ⟨hb17.os.trans hg16.os, hb17.tape.trans hg16.tape, hb17.output.trans hg16.output, hA17.size, fun b hlt => (hb17.block b (Nat.lt_of_lt_of_le hlt (Nat.le_trans hC15.size hg16.size))).trans (hg16.block b (Nat.lt_of_lt_of_le hlt hC15.size) fun e => by have : b = w2.heap.size := Option.some.inj e; omega)⟩
          have hm17 : ∀ q, (M q ∨ q = w1.heap.size ∨ q = w2.heap.size) → q < v17.heap.size := fun q hq => Nat.lt_of_lt_of_le (hP15.m q hq) hA17.size
          have hfo : ∀ b, Foot (Value.slice ⌜g⌝ os.length co) vd1 os b → Foot (Value.slice ⌜g⌝ (os.length + 1) co) vd1 (os ++ [p]) b := by
            rintro b (e | e | ⟨i, o, hi, e⟩)
            · exact .inl e
            · exact .inr (.inl e)
            · exact .inr (.inr ⟨i, o, snoc_left hi, e⟩)
          have hlim' : BLim (limN - l.length + i) (absO os, ds1) := ⟨hlim1.1, by rw [absO_len]; omega, fun x hx => hlim1.2.2 x (by rw [absO_snoc]; exact List.mem_cons_of_mem _ hx)⟩
          refine rest_reads (q := 2) (nl := [(78, (.agg ([vd1, (Value.slice ⌜g⌝ os.length co), .int .i64 0, .int .i64 0]).toArray)), (79, (.agg (tokC (endTok p.t t0) ++ [p.v]).toArray))]) κ κ hfr12 rfl (.s rfl (rd_of rfl rfl fun _ hw => ru_load rfl sxTyB rfl rfl (At.rd (At.all hr17) (by simp) hw))
            (.s rfl (rd_of rfl rfl fun _ hw => ru_load rfl sxTyN rfl rfl (At.rd (At.all hN17) (by simp [tokC]) hw))
            (.z))) (fun a hfr13 => ?_)
          refine rest_callE κ κ rfl hfr13 κ rfl (enters_of Tryd.func42 κ rfl) rfl (push_ok (n := .mk (endTok p.t t0) p.k) hm17 hpop hnode (N := limN - l.length + i) (by simp only [limN]; omega) hlim') ?_
          rintro x y1 ⟨os2, ds2, q1, q2, q3, q4⟩
          have hfrP := hfr13.put (d := 80) (by decide) (.agg #[x.2, x.1, .int .i64 0, .int .i64 0])
          have hT3 : y1.ownsRow 0 45 4 (.slice ⌜w2.heap.size⌝ 1 1) 1 [vd1, (Value.slice ⌜g⌝ os.length co), .int .i64 0, .int .i64 0] := ownsRow_same hr17 fun b hb => Chg.block q3 (hr17.lt b hb).2 fun e => by
            have : w2.heap.size = b := Option.some.inj hb
            exact (hpop).m b e (.inr (.inr this.symm))
          have hT2 : y1.ownsRow 0 45 4 (.slice ⌜w1.heap.size⌝ 1 1) 1 [.slice none 0 0, .slice none 0 0, .int .i64 0, .int .i64 0] := ownsRow_same hW17 fun b hb => Chg.block q3 (hW17.lt b hb).2 fun e => by
            have : w1.heap.size = b := Option.some.inj hb
            exact (hpop).m b e (.inr (.inl this.symm))
          have hx1 : x.1.oneCell' = true := by obtain ⟨_, _, e⟩ := own_slice q1.o; rw [e]; rfl
          have hx2 : x.2.oneCell' = true := by obtain ⟨_, hz, _⟩ := q1.d; obtain ⟨_, _, e⟩ := own_slice hz; rw [e]; rfl
          refine rest_store κ κ rfl hfrP κ rfl (rs_store (vs := [x.2, x.1, .int .i64 0, .int .i64 0]) rfl κ rfl rfl rfl (one4 hx2 hx1 rfl rfl) hT3 (by simp)) ?_
          rintro y2 ⟨hry, hgy⟩
          have hry : y2.ownsRow 0 45 4 (.slice ⌜w2.heap.size⌝ 1 1) 1 [x.2, x.1, .int .i64 0, .int .i64 0] := hry
          have hWy := hT2.kept hgy (.inr fun e => by have : w1.heap.size = w2.heap.size := Option.some.inj e; omega)
          refine rest_end κ ?_
          have hPy : TIn (fun b => M b ∨ b = w1.heap.size ∨ b = w2.heap.size) y2 w2.heap.size 1 45 4 [x.2, x.1, .int .i64 0, .int .i64 0] x.1 x.2 os2 ds2 := ⟨q1.next ⟨hgy.size, fun b hlt hm => hgy.block b hlt fun e => hm (.inr (.inr (Option.some.inj e)))⟩ (fun _ _ h => h), fun q hq => Nat.lt_of_lt_of_le (hm17 q hq) (Nat.le_trans (Beyond.size q3) hgy.size), hry⟩
          have hCy : Below w.heap.size w y2 := hC17.trans ⟨hgy.os.trans (Beyond.os q3), hgy.tape.trans (Beyond.tape q3), hgy.output.trans (Beyond.output q3), Nat.le_trans (Beyond.size q3) hgy.size, fun b hlt => (hgy.block b (Nat.lt_of_lt_of_le hlt (Nat.le_trans hC17.size (Beyond.size q3))) fun e => by have : b = w2.heap.size := Option.some.inj e; omega).trans (Chg.block q3 (Nat.lt_of_lt_of_le hlt hC17.size) fun e => hF b hlt (hfo b e))⟩
          have hFy : ∀ b, b < w.heap.size → ¬ Foot x.1 x.2 os2 b := fun b hlt hf => hF b hlt (hfo b (q4 b (Nat.lt_of_lt_of_le hlt hC17.size) hf))
          have hbt : btakeS (absO (os ++ [p]), ds1) t0 = .inl (absO os2, ds2) := by
            rw [q2, absO_snoc]
            simp [btakeS, k2]
          simp only [Exit.then, Exit.inBlock]
          refine region_rest sxMix fun vr _ hbr => ?_
          refine rest_reads (q := 2) (nl := [(13, (.int .i64 (((i : Nat) : Int)))), (14, (.int .i64 (IntKind.i64.wrap (((i : Nat) : Int) + (1 : Int)))))]) κ κ hfrP rfl (.s rfl (δ ru_move rfl rfl)
            (.s rfl (δ ru_add rfl rfl rfl)
            (.z))) (fun a hfrQ => ?_)
          refine rest_reads (q := 3) (nl := [(4, (.int .i64 (IntKind.i64.wrap (((i : Nat) : Int) + (1 : Int)))))]) κ κ hfrQ rfl (.s rfl (δ ru_assign rfl rfl)
            (.z)) (fun a hfrR => ?_)
          refine rest_end κ ?_
          have hwi : IntKind.i64.wrap (((i : Nat) : Int) + (1 : Int)) = ((i + 1 : Nat) : Int) := by rw [show (((i : Nat) : Int) + (1 : Int)) = ((i + 1 : Nat) : Int) by omega]; exact wrap_small (by omega) (by omega)
          simp only [Exit.then]
          refine ⟨l.length - (i + 1), by omega, i + 1, _, _, _, _, rfl, by omega, hfrR.pick _ ⟨⟨rfl, rfl⟩, ⟨rfl, rfl⟩, ⟨rfl, rfl⟩, ⟨rfl, by rw [← hwi]; rfl⟩, trivial⟩, hPy.next hbr, row_next hWy hbr, ?_, ?_, fun _ => ⟨a0, rfl, ha1, ha2, fun j t hj => ?_⟩, hCy.trans (hbr.mono hCy.size), hFy⟩
          · simp only [ballS, hbt] at hball
            exact hball
          · have := hlim1.take hbt
            exact this
          · refine (ha3 j t hj).of_heap ?_
            rw [block_add]
            exact ((hCy.trans (hbr.mono hCy.size)).block _ ha1).trans (hC.block _ ha1).symm
      · refine wp_cond_false ((hfr7.get (t := 49) rfl).trans (by show Value.bool (decide _) = _; rw [decide_eq_false k2])) ?_
        refine region_rest sxMix fun v8 _ hb8 => ?_
        have hP8 := hP7.next hb8
        have hW8 := row_next hW7 hb8
        have hC8 := hC7.trans (hb8.mono hC7.size)
        have hB8 := row_next hB7 hb8
        refine rest_reads (q := 3) (nl := [(21, (.agg ([vd1, vo1, .int .i64 0, .int .i64 0]).toArray)), (22, (.agg (tokC t0).toArray)), (23, (.agg (tokC t0 ++ [Value.slice none 0 0]).toArray))]) κ κ hfr7 rfl (.s rfl (rd_of rfl rfl fun _ hw => ru_load rfl sxTyB rfl rfl (At.rd (At.all hP8.r) (by simp) hw))
          (.s rfl (rd_of rfl rfl fun _ hw => ru_load rfl sxTyK rfl rfl (At.rd (At.all hB8) (by simp [tokC]) hw))
          (.s rfl (δ ru_build rfl κ)
          (.z)))) (fun a hfr8 => ?_)
        have hr8 := hP8.r
        have hn8 : Rep (fun q => (M q ∨ q = w1.heap.size ∨ q = w2.heap.size) ∨ Foot vo1 vd1 os1 q) v8 nodeT (NodeD.un (.mk t0 [])) (tokC t0 ++ [.slice none 0 0]) := ⟨_, _, rfl, (rep_tok _ _).2 rfl, RepK.nil _ _⟩
        refine rest_callE κ κ rfl hfr8 κ rfl (enters_of Tryd.func42 κ rfl) rfl (push_ok (n := .mk t0 []) hP8.m hP8.b hn8 (N := limN - l.length + i) (by simp only [limN]; omega) hlim1) ?_
        rintro x y1 ⟨os2, ds2, q1, q2, q3, q4⟩
        have hfrP := hfr8.put (d := 24) (by decide) (.agg #[x.2, x.1, .int .i64 0, .int .i64 0])
        have hT3 : y1.ownsRow 0 45 4 (.slice ⌜w2.heap.size⌝ 1 1) 1 [vd1, vo1, .int .i64 0, .int .i64 0] := ownsRow_same hr8 fun b hb => Chg.block q3 (hr8.lt b hb).2 fun e => by
          have : w2.heap.size = b := Option.some.inj hb
          exact (hP8.b).m b e (.inr (.inr this.symm))
        have hT2 : y1.ownsRow 0 45 4 (.slice ⌜w1.heap.size⌝ 1 1) 1 [.slice none 0 0, .slice none 0 0, .int .i64 0, .int .i64 0] := ownsRow_same hW8 fun b hb => Chg.block q3 (hW8.lt b hb).2 fun e => by
          have : w1.heap.size = b := Option.some.inj hb
          exact (hP8.b).m b e (.inr (.inl this.symm))
        have hx1 : x.1.oneCell' = true := by obtain ⟨_, _, e⟩ := own_slice q1.o; rw [e]; rfl
        have hx2 : x.2.oneCell' = true := by obtain ⟨_, hz, _⟩ := q1.d; obtain ⟨_, _, e⟩ := own_slice hz; rw [e]; rfl
        refine rest_store κ κ rfl hfrP κ rfl (rs_store (vs := [x.2, x.1, .int .i64 0, .int .i64 0]) rfl κ rfl rfl rfl (one4 hx2 hx1 rfl rfl) hT3 (by simp)) ?_
        rintro y2 ⟨hry, hgy⟩
        have hry : y2.ownsRow 0 45 4 (.slice ⌜w2.heap.size⌝ 1 1) 1 [x.2, x.1, .int .i64 0, .int .i64 0] := hry
        have hWy := hT2.kept hgy (.inr fun e => by have : w1.heap.size = w2.heap.size := Option.some.inj e; omega)
        refine rest_end κ ?_
        have hPy : TIn (fun b => M b ∨ b = w1.heap.size ∨ b = w2.heap.size) y2 w2.heap.size 1 45 4 [x.2, x.1, .int .i64 0, .int .i64 0] x.1 x.2 os2 ds2 := ⟨q1.next ⟨hgy.size, fun b hlt hm => hgy.block b hlt fun e => hm (.inr (.inr (Option.some.inj e)))⟩ (fun _ _ h => h), fun q hq => Nat.lt_of_lt_of_le (hP8.m q hq) (Nat.le_trans (Beyond.size q3) hgy.size), hry⟩
        have hCy : Below w.heap.size w y2 := hC8.trans ⟨hgy.os.trans (Beyond.os q3), hgy.tape.trans (Beyond.tape q3), hgy.output.trans (Beyond.output q3), Nat.le_trans (Beyond.size q3) hgy.size, fun b hlt => (hgy.block b (Nat.lt_of_lt_of_le hlt (Nat.le_trans hC8.size (Beyond.size q3))) fun e => by have : b = w2.heap.size := Option.some.inj e; omega).trans (Chg.block q3 (Nat.lt_of_lt_of_le hlt hC8.size) fun e => hF b hlt ((fun _ h => h) b e))⟩
        have hFy : ∀ b, b < w.heap.size → ¬ Foot x.1 x.2 os2 b := fun b hlt hf => hF b hlt ((fun _ h => h) b (q4 b (Nat.lt_of_lt_of_le hlt hC8.size) hf))
        have hbt : btakeS (absO os1, ds1) t0 = .inl (absO os2, ds2) := by
          simp only [btakeS, k1, k2, if_false]
          rw [q2]
        simp only [Exit.then, Exit.inBlock]
        refine region_rest sxMix fun vr _ hbr => ?_
        refine rest_reads (q := 2) (nl := [(13, (.int .i64 (((i : Nat) : Int)))), (14, (.int .i64 (IntKind.i64.wrap (((i : Nat) : Int) + (1 : Int)))))]) κ κ hfrP rfl (.s rfl (δ ru_move rfl rfl)
          (.s rfl (δ ru_add rfl rfl rfl)
          (.z))) (fun a hfrQ => ?_)
        refine rest_reads (q := 3) (nl := [(4, (.int .i64 (IntKind.i64.wrap (((i : Nat) : Int) + (1 : Int)))))]) κ κ hfrQ rfl (.s rfl (δ ru_assign rfl rfl)
          (.z)) (fun a hfrR => ?_)
        refine rest_end κ ?_
        have hwi : IntKind.i64.wrap (((i : Nat) : Int) + (1 : Int)) = ((i + 1 : Nat) : Int) := by rw [show (((i : Nat) : Int) + (1 : Int)) = ((i + 1 : Nat) : Int) by omega]; exact wrap_small (by omega) (by omega)
        simp only [Exit.then]
        refine ⟨l.length - (i + 1), by omega, i + 1, _, _, _, _, rfl, by omega, hfrR.pick _ ⟨⟨rfl, rfl⟩, ⟨rfl, rfl⟩, ⟨rfl, rfl⟩, ⟨rfl, by rw [← hwi]; rfl⟩, trivial⟩, hPy.next hbr, row_next hWy hbr, ?_, ?_, fun _ => ⟨a0, rfl, ha1, ha2, fun j t hj => ?_⟩, hCy.trans (hbr.mono hCy.size), hFy⟩
        · simp only [ballS, hbt] at hball
          exact hball
        · have := hlim1.take hbt
          exact this
        · refine (ha3 j t hj).of_heap ?_
          rw [block_add]
          exact ((hCy.trans (hbr.mono hCy.size)).block _ ha1).trans (hC.block _ ha1).symm
  · obtain rfl : i = l.length := by omega
    rw [List.drop_length] at hball
    refine wp_cond_false ((hfr2.get (t := 12) rfl).trans (by show Value.bool (decide _) = _; rw [decide_eq_false (by omega)])) (wp_exit ?_)
    simp only [Exit.then, Exit.inBlock, if_true]
    refine wp_seq (region_rest sxMix fun v2 _ hb2 => ?_)
    have hP2 := hP1.next hb2
    have hW2 := row_next hW1 hb2
    have hC2 := hC1.trans (hb2.mono hC1.size)
    have hvo1 : vo1.oneCell' = true := by obtain ⟨_, _, e⟩ := own_slice hP2.b.o; rw [e]; rfl
    have hvd1 : vd1.oneCell' = true := by obtain ⟨_, hz, _⟩ := hP2.b.d; obtain ⟨_, _, e⟩ := own_slice hz; rw [e]; rfl
    refine rest_reads (q := 1) (nl := [(81, .agg #[vd1, vo1, .int .i64 0, .int .i64 0])]) κ κ hfr2 rfl (.s rfl (rd_of rfl rfl fun _ hw => ru_load rfl sxTyB rfl rfl (At.rd (cs := [vd1, vo1, .int .i64 0, .int .i64 0]) (At.all hP2.r) (by simp) hw)) .z) (fun a hfrZ => ?_)
    refine rest_store κ κ rfl hfrZ κ rfl (rs_store (vs := [vd1, vo1, .int .i64 0, .int .i64 0]) rfl κ rfl rfl rfl (one4 hvd1 hvo1 rfl rfl) hW2 (by simp)) ?_
    rintro v3 ⟨hZz, hgz⟩
    refine rest_end κ ?_
    refine wp_ret ?_
    simp only [ballS] at hball
    refine post_ret_cell (t := 2) rfl sxTyB rfl (hfrZ.get (t := 2) rfl) (At.all hZz) hfrZ.1 ⟨vo1, vd1, os1, by rw [← hball]; rfl, by rw [← hball]; exact push_out hP2.b (w' := v3) ⟨hgz.size, fun b hlt hm => hgz.block b hlt fun e => hm (.inr (.inl (Option.some.inj e)))⟩, by rw [← hball], hC2.trans ⟨hgz.os, hgz.tape, hgz.output, hgz.size, fun b hlt => hgz.block b (Nat.lt_of_lt_of_le hlt hC2.size) fun e => by have : b = w1.heap.size := Option.some.inj e; omega⟩⟩
theorem build_contract : Contract Tryd.prog 32 ⟨[.list tokT], [.st (.pair (.list nodeT) (.pair (.list nodeT) (.pair (.int .i64) (.int .i64))))], fun (l : List TokD) => buildF l⟩ := by
  intro l r hr M w vs hM hgl hvs
  have hr : buildF l = some r := hr
  unfold buildF at hr
  cases hlim : limB ([], []) l.length <;> rw [hlim] at hr
  · cases hr
  simp only [cond_true, Option.some.injEq] at hr
  subst hr
  match vs, hvs with
  | [v], hvs =>
    obtain ⟨_, cs, h1, h2⟩ := hvs.1
    obtain ⟨A, ca, hc, hA⟩ := toks_at (l := l) (lv := v) (by
      obtain ⟨A, c, xs, rfl, _⟩ := Rep.row (by decide) h1
      rw [show v = .slice A l.length c from h2]
      exact h1)
    subst hc
    refine .inl ⟨enters_of Tryd.func32 κ rfl _ _, Calls.mono (build_ok hM hA hlim) ?_⟩
    rintro e w' ⟨vo, vd, os, rfl, hB, hab, hb⟩
    refine ⟨[_], rfl, ⟨?_, trivial⟩, hb⟩
    obtain ⟨zs, hd, hdr⟩ := hB.d
    have hD : Rep M w' (.list nodeT) ((ballS ([], []) l).1.2.map NodeD.un) [vd] := RepRow.list (by rw [List.length_map]; exact hd) (hdr.next (Agree.refl _ _) fun b _ hm => .inl hm) fun b hb' hm => hB.m b (.inr (.inl hb')) hm
    have hO : Rep M w' (.list nodeT) ((ballS ([], []) l).1.1.reverse) [vo] := by
      rw [← hab]
      have hlen : (absO os).reverse.length = os.length := by rw [List.length_reverse, absO_len]
      refine RepRow.list (e := 34) (xs := opsC os) (by rw [hlen]; exact hB.o) ⟨by rw [hlen, opsC_len]; rfl, fun i x hi => ?_⟩ fun b hb' hm => hB.m b (.inl hb') hm
      have e : (absO os).reverse = os.map fun o => (o.t, o.k) := by simp [absO]
      rw [e, List.getElem?_map] at hi
      obtain ⟨o, ho, rfl⟩ := Option.map_eq_some_iff.1 hi
      obtain ⟨ys, hk, hkr⟩ := hB.k i o ho
      have hkids : Rep M w' (.list nodeT) (o.k.map NodeD.un) [o.v] := RepRow.list (by rw [List.length_map]; exact hk) (hkr.next (Agree.refl _ _) fun b _ hm => .inl hm) fun b hb' hm => hB.m b (.inr (.inr ⟨i, o, ho, hb'⟩)) hm
      have hs : seg (opsC os) (i * 7) 7 = opC o := ops_seg ho
      show Rep M w' nodeT (o.t, o.k) (seg (opsC os) (i * nodeT.sz) nodeT.sz)
      rw [show nodeT.sz = 7 from rfl, hs]
      exact ⟨tokC o.t, [o.v], rfl, (rep_tok _ _).2 rfl, by have := list_repK hkids; rwa [List.map_map, show NodeD.fold ∘ NodeD.un = id from funext NodeD.fold_un, List.map_id] at this⟩
    exact ⟨by kernel_rfl, _, ⟨[vd], _, rfl, hD, [vo], _, rfl, hO, [_], [_], rfl, rfl, rfl⟩, rfl⟩
end Go.Proofs.YtnjpocbcfkfphaaDoor

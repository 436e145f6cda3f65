/- A region whose order is open. -/
import Derived.Test.YtiacmfebhoodnaaFkP
import Derived.Orders
namespace Go.FK
open Go.RowKit

variable {P : Program} {X R : Type}

theorem hasT_mem {t : Tmp} : ∀ {l : List Tmp}, t ∈ l → hasT t l = true
  | u :: us, h => by
    rcases List.mem_cons.1 h with h | h
    · simp [hasT, h]
    · simp [hasT, hasT_mem h]

theorem allBelow_spec {p : Nat → Bool} : ∀ {n : Nat}, allBelow p n = true → ∀ j, j < n → p j = true
  | n + 1, h, j, hj => by
    simp only [allBelow, Bool.and_eq_true] at h
    rcases Nat.lt_succ_iff_lt_or_eq.1 hj with h' | h'
    · exact allBelow_spec h.2 j h'
    · rw [h']; exact h.1

/-! ### The operations ahead -/
def beforeF (acc : List Nat) (o : Oper) : Nat := o.after.toList.foldl (fun s e => if Region.binds .any e then s ||| 2 ^ e.on ||| nthD 0 acc e.on else s) 0

theorem beforeF_bit (acc : List Nat) (i : Nat) : ∀ (l : List Edge) (s : Nat), (l.foldl (fun s e => if Region.binds .any e then s ||| 2 ^ e.on ||| nthD 0 acc e.on else s) s).testBit i = true →
    s.testBit i = true ∨ ∃ e ∈ l, Region.binds .any e = true ∧ (i = e.on ∨ (nthD 0 acc e.on).testBit i = true)
  | [], s, h => .inl h
  | e :: l, s, h => by
    simp only [List.foldl_cons] at h
    rcases beforeF_bit acc i l _ h with h' | ⟨e', he', h1, h2⟩
    · by_cases hb : Region.binds .any e = true
      · rw [if_pos hb] at h'
        simp only [Nat.testBit_or, Nat.testBit_two_pow, Bool.or_eq_true, decide_eq_true_eq] at h'
        rcases h' with (h' | h') | h'
        · exact .inl h'
        · exact .inr ⟨e, by simp, hb, .inl h'.symm⟩
        · exact .inr ⟨e, by simp, hb, .inr h'⟩
      · rw [if_neg hb] at h'
        exact .inl h'
    · exact .inr ⟨e', by simp [he'], h1, h2⟩

theorem befores_spec : ∀ (l : List Oper) (acc : List Nat), ∃ more, befores l acc = acc ++ more ∧ more.length = l.length ∧
    ∀ k o, l[k]? = some o → nthD 0 (befores l acc) (acc.length + k) = beforeF ((befores l acc).take (acc.length + k)) o
  | [], acc => ⟨[], by simp [befores], rfl, fun k o h => by simp at h⟩
  | o :: rest, acc => by
    obtain ⟨more, h1, h2, h3⟩ := befores_spec rest (acc ++ [beforeF acc o])
    have e : befores (o :: rest) acc = befores rest (acc ++ [beforeF acc o]) := rfl
    refine ⟨beforeF acc o :: more, by rw [e, h1]; simp, by simp [h2], fun k p hp => ?_⟩
    cases k with
    | zero =>
      simp only [List.getElem?_cons_zero, Option.some.injEq] at hp
      subst hp
      rw [e, h1, nthD_eq]
      simp
    | succ k =>
      have := h3 k p (by simpa using hp)
      rw [e]
      simp only [List.length_append, List.length_singleton] at this
      have e2 : acc.length + (k + 1) = acc.length + 1 + k := by omega
      rw [e2]
      exact this

theorem beforeF_keep (acc : List Nat) (i : Nat) : ∀ (l : List Edge) (s : Nat), s.testBit i = true → (l.foldl (fun s e => if Region.binds .any e then s ||| 2 ^ e.on ||| nthD 0 acc e.on else s) s).testBit i = true
  | [], s, h => h
  | e :: l, s, h => by
    simp only [List.foldl_cons]
    refine beforeF_keep acc i l _ ?_
    split
    · simp [h]
    · exact h

theorem beforeF_has (acc : List Nat) : ∀ (l : List Edge) (s : Nat) (e : Edge), e ∈ l → Region.binds .any e = true → (l.foldl (fun s e => if Region.binds .any e then s ||| 2 ^ e.on ||| nthD 0 acc e.on else s) s).testBit e.on = true
  | e' :: l, s, e, h, hb => by
    simp only [List.foldl_cons]
    rcases List.mem_cons.1 h with h | h
    · subst h
      refine beforeF_keep acc _ l _ ?_
      rw [if_pos hb]
      simp [Nat.testBit_or]
    · exact beforeF_has acc l _ e h hb

theorem before_has {ops : List Oper} {j : Nat} {o : Oper} (ho : ops[j]? = some o) {e : Edge} (he : e ∈ o.after.toList) (hb : Region.binds .any e = true) : (nthD 0 (befores ops []) j).testBit e.on = true := by
  obtain ⟨more, h1, h2, h3⟩ := befores_spec ops []
  have := h3 j o ho
  simp only [List.length_nil, Nat.zero_add] at this
  rw [this]
  exact beforeF_has _ _ _ e he hb

theorem before_bit {ops : List Oper} {j i : Nat} {o : Oper} (ho : ops[j]? = some o) (h : (nthD 0 (befores ops []) j).testBit i = true) :
    ∃ e ∈ o.after.toList, Region.binds .any e = true ∧ (i = e.on ∨ (nthD 0 (befores ops []) e.on).testBit i = true) := by
  obtain ⟨more, h1, h2, h3⟩ := befores_spec ops []
  have := h3 j o ho
  simp only [List.length_nil, Nat.zero_add] at this
  rw [this] at h
  rcases beforeF_bit _ i _ _ h with h | ⟨e, he, hb, h⟩
  · simp at h
  · refine ⟨e, he, hb, ?_⟩
    rcases h with h | h
    · exact .inl h
    · refine .inr ?_
      rw [nthD_eq] at h ⊢
      rw [List.getD_eq_getElem?_getD] at h ⊢
      rw [List.getElem?_take] at h
      split at h
      · exact h
      · simp at h

theorem befores_length (ops : List Oper) : (befores ops []).length = ops.length := by
  obtain ⟨more, h1, h2, _⟩ := befores_spec ops []
  rw [h1]; simpa using h2

/-! ### Lists of what is done -/
def unl (S : Nat → Bool) : Nat → Nat
  | 0 => 0
  | n + 1 => unl S n + (if S n then 0 else 1)

theorem unl_zero {S : Nat → Bool} : ∀ {n : Nat}, unl S n = 0 → ∀ i, i < n → S i = true
  | n + 1, h, i, hi => by
    simp only [unl] at h
    rcases Nat.lt_succ_iff_lt_or_eq.1 hi with h' | h'
    · exact unl_zero (by omega) i h'
    · subst h'
      by_cases hs : S i = true
      · exact hs
      · simp [hs] at h

theorem unl_congr {S T : Nat → Bool} : ∀ {n : Nat}, (∀ i, i < n → S i = T i) → unl S n = unl T n
  | 0, _ => rfl
  | n + 1, h => by simp only [unl, unl_congr (n := n) (fun i hi => h i (by omega)), h n (by omega)]

theorem unl_set {S : Nat → Bool} {j : Nat} : ∀ {n : Nat}, j < n → S j = false → unl (fun i => i == j || S i) n + 1 = unl S n
  | n + 1, hj, hs => by
    simp only [unl]
    rcases Nat.lt_succ_iff_lt_or_eq.1 hj with h' | h'
    · have := unl_set (S := S) h' hs
      have hne : (n == j) = false := by simp; omega
      simp only [hne, Bool.false_or]
      omega
    · subst h'
      have : unl (fun i => i == j || S i) j = unl S j := unl_congr fun i hi => by
        have : (i == j) = false := by simp; omega
        simp [this]
      simp [this, hs]

def Sl (L : Array Bool) : Nat → Bool := fun i => L.getD i false

theorem Sl_set {L : Array Bool} {j : Nat} (hj : j < L.size) : Sl (L.setIfInBounds j true) = fun i => i == j || Sl L i := by
  funext i
  unfold Sl
  by_cases h : j = i
  · subst h; simp [hj]
  · have : (i == j) = false := by simp; exact fun e => h e.symm
    rw [getD_set_ne false h, this, Bool.false_or]

theorem Sl_ready {ops : List Oper} {L : Array Bool} (hsz : L.size = ops.length) {j : Nat} (h : j ∈ Region.ready .any ops.toArray L) :
    j < ops.length ∧ Sl L j = false ∧ ∃ o, ops[j]? = some o ∧ ∀ e ∈ o.after.toList, Region.binds .any e = true → Sl L e.on = true := by
  obtain ⟨h1, o, ho, h2⟩ := mem_ready.1 h
  have ho' : ops[j]? = some o := by simpa using ho
  have hlt : j < ops.length := (List.getElem?_eq_some_iff.1 ho').1
  refine ⟨hlt, ?_, o, ho', fun e he hb => h2 e (by simpa using he) hb⟩
  have hj : j < L.size := by omega
  simp only [Sl]
  simpa [Array.getD_eq_getD_getElem?, hj] using h1

theorem ready_of {ops : List Oper} {L : Array Bool} (hsz : L.size = ops.length) {j : Nat} {o : Oper} (ho : ops[j]? = some o) (hj : Sl L j = false) (he : ∀ e ∈ o.after.toList, Region.binds .any e = true → Sl L e.on = true) :
    j ∈ Region.ready .any ops.toArray L := by
  refine mem_ready.2 ⟨?_, o, by simpa using ho, fun e hm hb => he e (by simpa using hm) hb⟩
  have hlt : j < ops.length := (List.getElem?_eq_some_iff.1 ho).1
  have hj' : j < L.size := by omega
  simp only [Sl] at hj
  simpa [Array.getD_eq_getD_getElem?, hj'] using hj

/-! ### What drawOk says -/
structure Draw (ops : List Oper) (m : Nat) : Prop where
  le : m ≤ ops.length
  nosel : ∀ (j : Nat) (o : Oper) cs b, ops.toArray[j]? = some o → o.op ≠ .select cs b
  part : ∀ j i, m ≤ j → j < ops.length → i < j → (nthD 0 (befores ops []) j).testBit i = true ∨ ∃ p, ops[i]? = some p ∧ pureB p.op = true
  apart : ∀ i p, ops[i]? = some p → pureB p.op = true → ∀ j o, ops[j]? = some o → j ≠ i → (nthD 0 (befores ops []) i).testBit j = true ∨ (∃ e ∈ o.after.toList, Region.binds .any e = true ∧ e.on = i) ∨ p.apart ops.toArray o = true
  back : ∀ j o, ops[j]? = some o → ∀ e ∈ o.after.toList, Region.binds .any e = true → e.on < j
  one : ∀ i j p o d, i < m → j < m → ops[i]? = some p → ops[j]? = some o → p.dst = some d → o.dst = some d → i = j
  reads : ∀ i j p o d, i < m → j < m → ops[i]? = some p → ops[j]? = some o → p.dst = some d → d ∈ readsOf ops o → (i < j ∧ (nthD 0 (befores ops []) j).testBit i = true) ∨ (j < i ∧ (nthD 0 (befores ops []) i).testBit j = true)

theorem freeLen_le {E : Env X} : ∀ (l : List Oper), freeLen E l ≤ l.length
  | [] => Nat.le_refl _
  | o :: l => by unfold freeLen; split <;> simp [freeLen_le l]

theorem drawOk_spec {E : Env X} {ops : List Oper} (h : drawOk E ops = true) : Draw ops (freeLen E ops) := by
  unfold drawOk at h
  simp only [Bool.and_eq_true] at h
  obtain ⟨hA, hB⟩ := h
  have hA' : ∀ j o, ops[j]? = some o → _ := fun j o ho => by
    have := allBelow_spec hA j (List.getElem?_eq_some_iff.1 ho).1
    simp only [ho, Bool.and_eq_true] at this
    exact this
  have hB' : ∀ j o, ops[j]? = some o → j < freeLen E ops → _ := fun j o ho hj => by
    have := allBelow_spec hB j hj
    simp only [ho] at this
    exact this
  refine ⟨freeLen_le ops, fun j o cs b ho e => ?_, fun j i hm hj hi => ?_, fun i p hp hpu j o ho hne => ?_, fun j o ho e he hb => ?_, fun i j p o d hi hj hp ho hd hd' => ?_, fun i j p o d hi hj hp ho hd hr => ?_⟩
  · have := (hA' j o (by simpa using ho)).1.1.1
    simp [selB, e] at this
  · obtain ⟨o, ho⟩ : ∃ o, ops[j]? = some o := ⟨ops[j], by simp [hj]⟩
    have := (hA' j o ho).1.2
    rw [if_pos hm] at this
    have := allBelow_spec this i hi
    obtain ⟨p, hp⟩ : ∃ p, ops[i]? = some p := ⟨ops[i]'(by omega), by simp⟩
    simp only [hp, Bool.or_eq_true] at this
    rcases this with h | h
    · exact .inl h
    · exact .inr ⟨p, hp, h⟩
  · have := (hA' i p hp).2
    rw [if_pos hpu] at this
    have := allBelow_spec this j (List.getElem?_eq_some_iff.1 ho).1
    simp only [ho, Bool.or_eq_true, beq_iff_eq, List.any_eq_true, Bool.and_eq_true] at this
    rcases this with (h | h) | (⟨e, h1, h2, h3⟩ | h)
    · exact absurd h hne
    · exact .inl h
    · exact .inr (.inl ⟨e, h1, h2, h3⟩)
    · exact .inr (.inr h)
  · have := (hA' j o ho).1.1.2
    rw [List.all_eq_true] at this
    have := this e he
    simpa [hb] using this
  · have := allBelow_spec (hB' j o ho hj) i hi
    simp only [hp, hd, Bool.and_eq_true, Bool.or_eq_true] at this
    rcases this.1 with h | h
    · simpa using h
    · simp [hd'] at h
  · have := allBelow_spec (hB' j o ho hj) i hi
    simp only [hp, hd, Bool.and_eq_true, Bool.or_eq_true, hasT_mem hr, decide_eq_true_eq] at this
    rcases this.2 with (h | h) | h
    · simp at h
    · exact .inl h
    · exact .inr h

/-! ### The operations that do not write, each by itself -/
def maskOf (n0 b : Nat) (s : St) : Obs := fun id => bif decide (id < n0) || b.testBit (id - n0) then s.ob id else none

def PureSound (P : Program) (ρ : Operand → AV) (op : Op) (av : AV) : Prop :=
  ∀ (M : Nat → Prop) (ν : Nat → Value) (dom : Nat → Prop) (obs : Obs) (w : World) (a : Act) (o : Oper), o.op = op → (∀ x ∈ op.operands, RepA M ν dom obs w (ρ x) (a.eval x)) →
    ∃ v, (∀ w', (execOp a.eval o).run P w' = .ok (.value v) w') ∧ RepA M ν dom obs w av v

theorem pure_sound {E : Env X} {nid : Nat} {cons : Bool} {obsm : Obs} {ρ : Operand → AV} {op : Op} {K : AV → Option Ob → Option R} {r : R} (hp : pureB op = true) (h : freeK E nid cons obsm ρ op K = some r) :
    ∃ av, K av none = some r ∧ PureSound P ρ op av := by
  cases op <;> simp only [pureB, Bool.false_eq_true] at hp
  case move x =>
    refine ⟨ρ x, by simpa [freeK] using h, fun M ν dom obs w a o ho hr => ⟨a.eval x, fun w' => by simp [execOp, ho], hr x (by simp [Op.operands])⟩⟩
  case assign x =>
    refine ⟨ρ x, by simpa [freeK] using h, fun M ν dom obs w a o ho hr => ⟨a.eval x, fun w' => by simp [execOp, ho], hr x (by simp [Op.operands])⟩⟩
  case extract x j =>
    simp only [freeK] at h
    split at h
    · rename_i l hρ
      split at h
      · rename_i d hd
        refine ⟨_, h, fun M ν dom obs w a o ho hr => ?_⟩
        have hx := hr x (by simp [Op.operands])
        rw [hρ] at hx
        obtain ⟨vs, e, h1, h2⟩ := hx
        obtain ⟨u, hu, hrep⟩ := h2 j d hd
        exact ⟨u, fun w' => by simp [execOp, ho, e, Instr.extract, hu], hrep⟩
      · cases h
    · cases h

theorem PureSound.free {nid : Nat} {obsm : Obs} {ρ : Operand → AV} {op : Op} {av : AV} (h : PureSound P ρ op av) : FreeSound P nid obsm ρ op av none :=
  freeSound_pure fun M0 b0 ν obs dom w a o ho _ _ _ hr => by
    obtain ⟨v, h1, h2⟩ := h _ ν dom obs w a o ho hr
    exact ⟨v, h1 w, h2⟩

def StepOk (P : Program) (all : List Oper) (n0 : Nat) (o : Oper) (b : Nat) (s s' : St) : Prop :=
  ∃ av nob, s' = ⟨put s.fr o.dst av, s.obs ++ [nob]⟩ ∧ ((Way all s o true ∧ FreeSound P s.obs.length (maskOf n0 b s) (evA s.fr) o.op av nob ∧ (pureB o.op = true → nob = none ∧ PureSound P (evA s.fr) o.op av)) ∨ (Way all s o false ∧ av = .und ∧ nob = none))

theorem free_steps {E : Env X} (hty : ∀ T ti, E.ty T = some ti → TyOk P T ti) (hfn : FnsOk P E) {all : List Oper} {n0 : Nat} {K : St → Option R} {r : R} : ∀ (l : List Oper) (bl : List Nat) (s : St), l.length = bl.length →
    runOps E all n0 l (bl.map some) s K = some r → ∃ st : Nat → St, st 0 = s ∧ runOps E all n0 (l.drop (freeLen E l)) ((bl.drop (freeLen E l)).map some) (st (freeLen E l)) K = some r ∧
      ∀ j, j < freeLen E l → ∃ o b, l[j]? = some o ∧ bl[j]? = some b ∧ StepOk P all n0 o b (st j) (st (j + 1))
  | [], bl, s, _, h => ⟨fun _ => s, rfl, by simpa [freeLen] using h, fun j hj => by simp [freeLen] at hj⟩
  | o :: rest, [], s, hl, _ => by simp at hl
  | o :: rest, b :: bl, s, hl, h => by
    by_cases hE : isEff E o.op = true
    · refine ⟨fun _ => s, rfl, by simpa [freeLen, hE] using h, fun j hj => by simp [freeLen, hE] at hj⟩
    · have hE : isEff E o.op = false := by simpa using hE
      obtain ⟨y, hy, hk⟩ := runOps_cons h
      have hgo : ∀ s', StepOk P all n0 o b s s' → runOps E all n0 rest (bl.map some) s' K = some r → ∃ st : Nat → St, st 0 = s ∧ runOps E all n0 ((o :: rest).drop (freeLen E (o :: rest))) (((b :: bl).drop (freeLen E (o :: rest))).map some) (st (freeLen E (o :: rest))) K = some r ∧
          ∀ j, j < freeLen E (o :: rest) → ∃ p c, (o :: rest)[j]? = some p ∧ (b :: bl)[j]? = some c ∧ StepOk P all n0 p c (st j) (st (j + 1)) := by
        intro s' hs hr
        obtain ⟨st, h0, h1, h2⟩ := free_steps hty hfn rest bl s' (by simpa using hl) hr
        refine ⟨fun | 0 => s | j + 1 => st j, rfl, ?_, fun j hj => ?_⟩
        · simpa [freeLen, hE] using h1
        · cases j with
          | zero => exact ⟨o, b, rfl, rfl, by simpa [h0] using hs⟩
          | succ j =>
            obtain ⟨p, c, h3, h4, h5⟩ := h2 j (by simpa [freeLen, hE] using hj)
            exact ⟨p, c, by simpa using h3, by simpa using h4, h5⟩
      cases y
      · simp only [cond_false, skipK] at hk
        exact hgo _ ⟨_, _, rfl, .inr ⟨hy, rfl, rfl⟩⟩ (by simpa using hk)
      · simp only [cond_true, stepK, hE, cond_false, List.map_cons] at hk
        by_cases hpu : pureB o.op = true
        · obtain ⟨av, hK, hS⟩ := pure_sound (P := P) hpu hk
          exact hgo _ ⟨av, none, rfl, .inl ⟨hy, hS.free, fun _ => ⟨rfl, hS⟩⟩⟩ (by simpa using hK)
        · obtain ⟨av, nob, hK, hS⟩ := free_sound hty hfn.1 hfn.2.1 hk
          exact hgo _ ⟨av, nob, rfl, .inl ⟨hy, hS, fun h => absurd h hpu⟩⟩ (by simpa using hK)

end Go.FK

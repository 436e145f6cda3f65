/- strings.ReplaceAll by the shelf's contract: the layings at this program, and what FK asks of it. -/
import Derived.Shelf.Strings.Replace
import Derived.Shelf.Strconv.Clone
import Derived.Shelf.LaysM
import Derived.Test.YtnjpocbcfkfphaaDoorProg
import Derived.Test.YtnjpocbcfkfphaaDoorF4
namespace Go.Proofs
open Go.Shelf
def Tryd.lays155_ren : Go.Shelf.Ren := ⟨fun | 155 => 46 | 154 => 69 | 138 => 86 | 165 => 87 | 143 => 88 | 166 => 34 | 197 => 89 | 169 => 25 | 195 => 95 | 218 => 96 | 240 => 49 | 241 => 97 | 219 => 98 | 260 => 99 | 276 => 70 | 277 => 101 | 217 => 94 | 225 => 102 | 224 => 103 | 267 => 104 | 266 => 100 | 314 => 105 | n => n, fun | 9 => 9 | 3 => 3 | 4 => 4 | 72 => 53 | 0 => 0 | 76 => 75 | 105 => 117 | 21 => 21 | 5 => 5 | 70 => 50 | 20 => 20 | 37 => 51 | 75 => 74 | 127 => 77 | 164 => 107 | 46 => 125 | 119 => 126 | 139 => 129 | 138 => 128 | 146 => 131 | 51 => 130 | 80 => 55 | n => n, fun | 1 => 0 | 3 => 1 | 4 => 2 | n => n⟩
theorem Tryd.lays155 : Go.Proofs.LaysM.n155 Tryd.prog Tryd.lays155_ren := {
  mixed := by kernel_rfl
  f138 := Tryd.func86.trans (congrArg some (by kernel_rfl))
  f143 := Tryd.func88.trans (congrArg some (by kernel_rfl))
  f154 := Tryd.func69.trans (congrArg some (by kernel_rfl))
  f155 := Tryd.func46.trans (congrArg some (by kernel_rfl))
  f165 := Tryd.func87.trans (congrArg some (by kernel_rfl))
  f166 := Tryd.func34.trans (congrArg some (by kernel_rfl))
  f169 := Tryd.func25.trans (congrArg some (by kernel_rfl))
  f195 := Tryd.func95.trans (congrArg some (by kernel_rfl))
  f197 := Tryd.func89.trans (congrArg some (by kernel_rfl))
  f217 := Tryd.func94.trans (congrArg some (by kernel_rfl))
  f218 := Tryd.func96.trans (congrArg some (by kernel_rfl))
  f219 := Tryd.func98.trans (congrArg some (by kernel_rfl))
  f224 := Tryd.func103.trans (congrArg some (by kernel_rfl))
  f225 := Tryd.func102.trans (congrArg some (by kernel_rfl))
  f240 := Tryd.func49.trans (congrArg some (by kernel_rfl))
  f241 := Tryd.func97.trans (congrArg some (by kernel_rfl))
  f260 := Tryd.func99.trans (congrArg some (by kernel_rfl))
  f266 := Tryd.func100.trans (congrArg some (by kernel_rfl))
  f267 := Tryd.func104.trans (congrArg some (by kernel_rfl))
  f276 := Tryd.func70.trans (congrArg some (by kernel_rfl))
  f277 := Tryd.func101.trans (congrArg some (by kernel_rfl))
  f314 := Tryd.func105.trans (congrArg some (by kernel_rfl))
  t0 := Tryd.underlying0
  a0 := Tryd.isAgg0
  z0 := Tryd.sizeOf0
  v0 := Tryd.zeroValue0
  t3 := Tryd.underlying3
  a3 := Tryd.isAgg3
  z3 := Tryd.sizeOf3
  v3 := Tryd.zeroValue3
  t4 := Tryd.underlying4
  a4 := Tryd.isAgg4
  z4 := Tryd.sizeOf4
  v4 := Tryd.zeroValue4
  t5 := Tryd.underlying5
  a5 := Tryd.isAgg5
  z5 := Tryd.sizeOf5
  v5 := Tryd.zeroValue5
  t9 := Tryd.underlying9
  a9 := Tryd.isAgg9
  z9 := Tryd.sizeOf9
  v9 := Tryd.zeroValue9
  t20 := Tryd.underlying20
  a20 := Tryd.isAgg20
  z20 := Tryd.sizeOf20
  v20 := Tryd.zeroValue20
  t21 := Tryd.underlying21
  a21 := Tryd.isAgg21
  z21 := Tryd.sizeOf21
  v21 := Tryd.zeroValue21
  t37 := Tryd.underlying51
  a37 := Tryd.isAgg51
  z37 := Tryd.sizeOf51
  v37 := Tryd.zeroValue51
  t46 := Tryd.underlying125
  a46 := Tryd.isAgg125
  z46 := Tryd.sizeOf125
  v46 := Tryd.zeroValue125
  t51 := Tryd.underlying130
  a51 := Tryd.isAgg130
  z51 := Tryd.sizeOf130
  v51 := Tryd.zeroValue130
  t70 := Tryd.underlying50
  a70 := Tryd.isAgg50
  z70 := Tryd.sizeOf50
  v70 := Tryd.zeroValue50
  t72 := Tryd.underlying53
  a72 := Tryd.isAgg53
  z72 := Tryd.sizeOf53
  v72 := Tryd.zeroValue53
  t75 := Tryd.underlying74
  a75 := Tryd.isAgg74
  z75 := Tryd.sizeOf74
  v75 := Tryd.zeroValue74
  t76 := Tryd.underlying75
  a76 := Tryd.isAgg75
  z76 := Tryd.sizeOf75
  v76 := Tryd.zeroValue75
  t105 := Tryd.underlying117
  a105 := Tryd.isAgg117
  z105 := Tryd.sizeOf117
  v105 := Tryd.zeroValue117
  t119 := Tryd.underlying126
  a119 := Tryd.isAgg126
  z119 := Tryd.sizeOf126
  t127 := Tryd.underlying77
  a127 := Tryd.isAgg77
  z127 := Tryd.sizeOf77
  v127 := Tryd.zeroValue77
  t138 := Tryd.underlying128
  a138 := Tryd.isAgg128
  z138 := Tryd.sizeOf128
  v138 := Tryd.zeroValue128
  t139 := Tryd.underlying129
  a139 := Tryd.isAgg129
  z139 := Tryd.sizeOf129
  v139 := Tryd.zeroValue129
  t146 := Tryd.underlying131
  a146 := Tryd.isAgg131
  z146 := Tryd.sizeOf131
  v146 := Tryd.zeroValue131
  t164 := Tryd.underlying107
  a164 := Tryd.isAgg107
  z164 := Tryd.sizeOf107
  v164 := Tryd.zeroValue107
  g1 := by kernel_rfl
  g3 := by kernel_rfl
  g4 := by kernel_rfl
  t80 := Tryd.underlying55
  a80 := Tryd.isAgg55
  z80 := Tryd.sizeOf55
  v80 := Tryd.zeroValue55
  i0 := by kernel_rfl
  i3 := by kernel_rfl
  i4 := by kernel_rfl
  i5 := by kernel_rfl
  i9 := by kernel_rfl
  i20 := by kernel_rfl
  i21 := by kernel_rfl
  i37 := by kernel_rfl
  i46 := by kernel_rfl
  i51 := by kernel_rfl
  i70 := by kernel_rfl
  i72 := by kernel_rfl
  i75 := by kernel_rfl
  i76 := by kernel_rfl
  i80 := by kernel_rfl
  i105 := by kernel_rfl
  i127 := by kernel_rfl
  i138 := by kernel_rfl
  i139 := by kernel_rfl
  i146 := by kernel_rfl
  i164 := by kernel_rfl
  m1 := by kernel_rfl
  s1_3 := fun w h => Go.Proofs.cell_of_shapedOpen_int (zero := #[.int .i64 0]) (t := 3) h (of_decide_eq_true (by kernel_rfl)) (by kernel_rfl) rfl (by kernel_rfl) (by kernel_rfl) Tryd.underlying3
  m3 := by kernel_rfl
  m4 := by kernel_rfl }
def Tryd.lays316_ren : Go.Shelf.Ren := ⟨fun | 316 => 79 | n => n, fun | 9 => 9 | 3 => 3 | 4 => 4 | 37 => 51 | 0 => 0 | 127 => 77 | 5 => 5 | n => n, fun | n => n⟩
theorem Tryd.lays316 : Go.Proofs.LaysM.n316 Tryd.prog Tryd.lays316_ren := {
  mixed := by kernel_rfl
  f316 := Tryd.func79.trans (congrArg some (by kernel_rfl))
  t0 := Tryd.underlying0
  a0 := Tryd.isAgg0
  z0 := Tryd.sizeOf0
  v0 := Tryd.zeroValue0
  t3 := Tryd.underlying3
  a3 := Tryd.isAgg3
  z3 := Tryd.sizeOf3
  v3 := Tryd.zeroValue3
  t4 := Tryd.underlying4
  a4 := Tryd.isAgg4
  z4 := Tryd.sizeOf4
  v4 := Tryd.zeroValue4
  t9 := Tryd.underlying9
  a9 := Tryd.isAgg9
  z9 := Tryd.sizeOf9
  v9 := Tryd.zeroValue9
  t37 := Tryd.underlying51
  a37 := Tryd.isAgg51
  z37 := Tryd.sizeOf51
  v37 := Tryd.zeroValue51
  t127 := Tryd.underlying77
  a127 := Tryd.isAgg77
  z127 := Tryd.sizeOf77
  v127 := Tryd.zeroValue77
  t5 := Tryd.underlying5
  a5 := Tryd.isAgg5
  z5 := Tryd.sizeOf5
  v5 := Tryd.zeroValue5
  i0 := by kernel_rfl
  i3 := by kernel_rfl
  i4 := by kernel_rfl
  i5 := by kernel_rfl
  i9 := by kernel_rfl
  i37 := by kernel_rfl
  i127 := by kernel_rfl }
theorem Tryd.Builder_Extra_155 : Builder.Extra Tryd.prog Tryd.lays155_ren where
  sizeBuilder := by kernel_rfl
  liesBuilder := by kernel_rfl
  t5 := Tryd.underlying5
  a5 := Tryd.isAgg5
  z5 := Tryd.sizeOf5
  v5 := Tryd.zeroValue5
  infoByte := by kernel_rfl
  cellsByte := by kernel_rfl
  sizeByte := by kernel_rfl
  neB5 := by decide
end Go.Proofs
namespace Go.Proofs.YtnjpocbcfkfphaaDoor
open Go.FK Go.RowKit
def replF (s old new : ByteArray) : Option ByteArray := bif decide (s.size < 4294967281) && decide (1 ≤ old.size) && decide (new.size ≤ 2) then some ⟨(Go.Lib.replaceAll s.data.toList old.data.toList new.data.toList).toArray⟩ else none
theorem repl_contract {F : ByteArray → ByteArray → ByteArray → Option ByteArray} (hF : ∀ s o n, F s o n = replF s o n) : Contract Tryd.prog 46 ⟨[.str, .str, .str], [.str], fun (x : ByteArray × ByteArray × ByteArray) => F x.1 x.2.1 x.2.2⟩ := by
  intro x r hx M w vs hM hgl hvs
  have hr : replF x.1 x.2.1 x.2.2 = some r := by rw [← hF]; exact hx
  unfold replF at hr
  cases hc : (decide (x.1.size < 4294967281) && decide (1 ≤ x.2.1.size) && decide (x.2.2.size ≤ 2)) with
  | false => rw [hc] at hr; cases hr
  | true =>
    rw [hc] at hr
    simp only [cond_true, Option.some.injEq] at hr
    simp only [Bool.and_eq_true, decide_eq_true_eq] at hc
    match vs, hvs with
    | [u, v, z], ⟨h1, h2, h3, _⟩ =>
      have e1 : u = .string x.1 := repV_str h1
      have e2 : v = .string x.2.1 := repV_str h2
      have e3 : z = .string x.2.2 := repV_str h3
      subst e1 e2 e3
      left
      refine ⟨by kernel_rfl, ?_⟩
      obtain ⟨_, _, m, hm⟩ := hgl.var 0 (by decide)
      have hcb := Go.Lib.countB_le x.2.1 hc.1.2 x.1.size x.1 (Nat.le_refl _)
      have hlen : x.1.size + Go.Lib.countB x.1 x.2.1 * x.2.2.size ≤ 140737488355328 := by
        have := Nat.mul_le_mul hcb hc.2
        omega
      have := Any.strings_ReplaceAll { Tryd.lays155 with } Tryd.Builder_Extra_155 x.1 x.2.1 x.2.2 m w hc.1.1 hm hc.1.2 hlen
      refine Calls.mono (this : Calls Tryd.prog 46 #[.string x.1, .string x.2.1, .string x.2.2] w _) fun e w' h => ?_
      obtain ⟨he, hb⟩ := h
      rw [hr] at he
      exact ⟨[.string r], by rw [he]; rfl, ⟨str_repV _ _ _, trivial⟩, hb⟩
/-- The variable holds some number, by the world's shape. -/
theorem shaped_maxLen (w : World) (h : w.ShapedOpen Tryd.prog) : ∃ m, w.cell? ⟨0, 0, none⟩ = some (.int .i64 m) := Tryd.lays155.s1_3 w h
def cloneF (s : ByteArray) : Option ByteArray := bif decide (s.size ≤ 281474976710656) then some s else none
theorem clone_contract {F : ByteArray → Option ByteArray} (hF : ∀ s, F s = cloneF s) : Contract Tryd.prog 79 ⟨[.str], [.str], fun (x : ByteArray) => F x⟩ := by
  intro x r hx M w vs hM hgl hvs
  have hr : cloneF x = some r := by rw [← hF]; exact hx
  unfold cloneF at hr
  cases hc : decide ((show ByteArray from x).size ≤ 281474976710656) with
  | false => rw [hc] at hr; cases hr
  | true =>
    rw [hc] at hr
    simp only [cond_true, Option.some.injEq] at hr
    subst hr
    match vs, hvs with
    | [u], ⟨h1, _⟩ =>
      have e1 : u = .string x := repV_str h1
      subst e1
      left
      refine ⟨by kernel_rfl, ?_⟩
      have := Any.stringslite_Clone Tryd.lays316 x w (of_decide_eq_true hc)
      refine Calls.mono (this : Calls Tryd.prog 79 #[.string x] w _) fun e w' h => ?_
      obtain ⟨he, hb⟩ := h
      exact ⟨[.string x], by rw [he]; rfl, ⟨str_repV _ _ _, trivial⟩, hb⟩
end Go.Proofs.YtnjpocbcfkfphaaDoor

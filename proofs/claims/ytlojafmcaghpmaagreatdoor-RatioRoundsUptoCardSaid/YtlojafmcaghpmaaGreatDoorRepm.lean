/- strings.Repeat by the shelf's contract: the layings at this program, and what FK asks of it. -/
import Derived.Shelf.Strings.Repeat
import Derived.Test.YtlojafmcaghpmaaGreatDoorF2
import Derived.Test.YtlojafmcaghpmaaGreatDoorProg
namespace Go.Proofs
open Go.Shelf
def Tryz.lays105_ren : Go.Shelf.Ren := ⟨fun | 105 => 82 | 212 => 119 | 99 => 120 | 165 => 121 | 166 => 122 | 170 => 123 | 169 => 124 | 263 => 141 | 264 => 142 | 206 => 143 | 240 => 144 | 241 => 145 | 276 => 151 | 277 => 152 | n => n, fun | 9 => 9 | 3 => 3 | 4 => 4 | 20 => 20 | 0 => 0 | 46 => 90 | 109 => 106 | 5 => 5 | 72 => 112 | 76 => 116 | 51 => 54 | 146 => 99 | 53 => 67 | 148 => 132 | 70 => 109 | 37 => 110 | 75 => 115 | 127 => 134 | 164 => 142 | 80 => 119 | n => n, fun | n => n⟩
theorem Tryz.lays105 : Go.Proofs.Lays.n105 Tryz.prog Tryz.lays105_ren := {
  mixed := by kernel_rfl
  f99 := Tryz.func120.trans (congrArg some (by kernel_rfl))
  f105 := Tryz.func82.trans (congrArg some (by kernel_rfl))
  f165 := Tryz.func121.trans (congrArg some (by kernel_rfl))
  f166 := Tryz.func122.trans (congrArg some (by kernel_rfl))
  f169 := Tryz.func124.trans (congrArg some (by kernel_rfl))
  f170 := Tryz.func123.trans (congrArg some (by kernel_rfl))
  f206 := Tryz.func143.trans (congrArg some (by kernel_rfl))
  f212 := Tryz.func119.trans (congrArg some (by kernel_rfl))
  f240 := Tryz.func144.trans (congrArg some (by kernel_rfl))
  f241 := Tryz.func145.trans (congrArg some (by kernel_rfl))
  f263 := Tryz.func141.trans (congrArg some (by kernel_rfl))
  f264 := Tryz.func142.trans (congrArg some (by kernel_rfl))
  f276 := Tryz.func151.trans (congrArg some (by kernel_rfl))
  f277 := Tryz.func152.trans (congrArg some (by kernel_rfl))
  t0 := Tryz.underlying0
  a0 := Tryz.isAgg0
  z0 := Tryz.sizeOf0
  v0 := Tryz.zeroValue0
  t3 := Tryz.underlying3
  a3 := Tryz.isAgg3
  z3 := Tryz.sizeOf3
  v3 := Tryz.zeroValue3
  t4 := Tryz.underlying4
  a4 := Tryz.isAgg4
  z4 := Tryz.sizeOf4
  v4 := Tryz.zeroValue4
  t5 := Tryz.underlying5
  a5 := Tryz.isAgg5
  z5 := Tryz.sizeOf5
  v5 := Tryz.zeroValue5
  t9 := Tryz.underlying9
  a9 := Tryz.isAgg9
  z9 := Tryz.sizeOf9
  v9 := Tryz.zeroValue9
  t20 := Tryz.underlying20
  a20 := Tryz.isAgg20
  z20 := Tryz.sizeOf20
  v20 := Tryz.zeroValue20
  t37 := Tryz.underlying110
  a37 := Tryz.isAgg110
  z37 := Tryz.sizeOf110
  v37 := Tryz.zeroValue110
  t46 := Tryz.underlying90
  a46 := Tryz.isAgg90
  z46 := Tryz.sizeOf90
  v46 := Tryz.zeroValue90
  t51 := Tryz.underlying54
  a51 := Tryz.isAgg54
  z51 := Tryz.sizeOf54
  v51 := Tryz.zeroValue54
  t53 := Tryz.underlying67
  a53 := Tryz.isAgg67
  z53 := Tryz.sizeOf67
  v53 := Tryz.zeroValue67
  t70 := Tryz.underlying109
  a70 := Tryz.isAgg109
  z70 := Tryz.sizeOf109
  v70 := Tryz.zeroValue109
  t72 := Tryz.underlying112
  a72 := Tryz.isAgg112
  z72 := Tryz.sizeOf112
  v72 := Tryz.zeroValue112
  t75 := Tryz.underlying115
  a75 := Tryz.isAgg115
  z75 := Tryz.sizeOf115
  v75 := Tryz.zeroValue115
  t76 := Tryz.underlying116
  a76 := Tryz.isAgg116
  z76 := Tryz.sizeOf116
  v76 := Tryz.zeroValue116
  t109 := Tryz.underlying106
  a109 := Tryz.isAgg106
  z109 := Tryz.sizeOf106
  v109 := Tryz.zeroValue106
  t127 := Tryz.underlying134
  a127 := Tryz.isAgg134
  z127 := Tryz.sizeOf134
  v127 := Tryz.zeroValue134
  t146 := Tryz.underlying99
  a146 := Tryz.isAgg99
  z146 := Tryz.sizeOf99
  v146 := Tryz.zeroValue99
  t148 := Tryz.underlying132
  a148 := Tryz.isAgg132
  z148 := Tryz.sizeOf132
  v148 := Tryz.zeroValue132
  t164 := Tryz.underlying142
  a164 := Tryz.isAgg142
  z164 := Tryz.sizeOf142
  v164 := Tryz.zeroValue142 }
theorem Tryz.Builder_Extra_105 : Builder.Extra Tryz.prog Tryz.lays105_ren where
  sizeBuilder := by kernel_rfl
  liesBuilder := by kernel_rfl
  t5 := Tryz.underlying5
  a5 := Tryz.isAgg5
  z5 := Tryz.sizeOf5
  v5 := Tryz.zeroValue5
  infoByte := by kernel_rfl
  cellsByte := by kernel_rfl
  sizeByte := by kernel_rfl
  neB5 := by decide
end Go.Proofs
namespace Go.Proofs.YtlojafmcaghpmaaGreatDoor
open Go.FK Go.RowKit
def repF (s : ByteArray) (n : Int) : Option ByteArray := bif decide (0 ≤ n) && decide ((s.size : Int) * n ≤ 140737488355328) && decide (n ≤ 9223372036854775807) then some ⟨(Go.Lib.repeatL s.data.toList n.toNat).toArray⟩ else none
theorem repeat_contract {F : ByteArray → Int → Option ByteArray} (hF : ∀ s n, F s n = repF s n) : Contract Tryz.prog 82 ⟨[.str, .int .i64], [.str], fun (x : ByteArray × Int) => F x.1 x.2⟩ := by
  intro x r hx M w vs hM _ hvs
  have hr : repF x.1 x.2 = some r := by rw [← hF]; exact hx
  unfold repF at hr
  obtain ⟨m, hm⟩ : ∃ m : Int, m = x.2 := ⟨_, rfl⟩
  rw [← hm] at hr
  cases hc : (decide (0 ≤ m) && decide ((x.1.size : Int) * m ≤ 140737488355328) && decide (m ≤ 9223372036854775807)) with
  | false => rw [hc] at hr; cases hr
  | true =>
    rw [hc] at hr
    simp only [cond_true, Option.some.injEq] at hr
    simp only [Bool.and_eq_true, decide_eq_true_eq] at hc
    obtain ⟨⟨c1, c2⟩, c3⟩ := hc
    obtain ⟨n, hn⟩ : ∃ n : Nat, m = (n : Int) := ⟨m.toNat, by omega⟩
    match vs, hvs with
    | [u, v], ⟨h1, h2, _⟩ =>
      have e1 : u = .string x.1 := repV_str h1
      have e2 : v = .int .i64 x.2 := repV_int h2
      subst e1 e2
      left
      refine ⟨by kernel_rfl, ?_⟩
      rw [← hm]
      rw [hn] at c2 c3 hr ⊢
      have c2' : x.1.size * n ≤ 140737488355328 := by
        have : ((x.1.size * n : Nat) : Int) ≤ 140737488355328 := by rw [Int.natCast_mul]; exact c2
        omega
      have := Any.strings_Repeat Tryz.lays105 Tryz.Builder_Extra_105 x.1 n w (by omega) c2'
      refine Calls.mono (this : Calls Tryz.prog 82 #[.string x.1, .int .i64 n] w _) fun e w' h => ?_
      obtain ⟨he, hb⟩ := h
      rw [Int.toNat_natCast] at hr
      rw [hr] at he
      exact ⟨[.string r], by rw [he]; rfl, ⟨str_repV _ _ _, trivial⟩, hb⟩
end Go.Proofs.YtlojafmcaghpmaaGreatDoor

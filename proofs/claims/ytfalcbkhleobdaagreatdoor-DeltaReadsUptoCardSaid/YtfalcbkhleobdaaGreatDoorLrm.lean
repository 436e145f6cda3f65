/- strings.LastIndexAny of short texts: runes beyond ASCII. -/
import Derived.Test.YtfalcbkhleobdaaGreatDoorLim
import Derived.Shelf.Strings.Runes
import Derived.Shelf.Unicode.DecodeLast
import Derived.Laws.RangeAny
import Derived.Laws.RangeString
import Derived.WalkMore
import Derived.Deep.Draws
import Derived.Deep.QuietTactic
namespace Go.Proofs
open Go.Shelf
def Tryz.lays137_ren : Go.Shelf.Ren := ⟨fun | 137 => 136 | 217 => 168 | 266 => 176 | n => n, fun | 9 => 9 | 5 => 5 | 3 => 3 | n => n, fun | n => n⟩
theorem Tryz.lays137 : Go.Proofs.Lays.n137 Tryz.prog Tryz.lays137_ren := {
  mixed := by kernel_rfl
  f137 := Tryz.func136.trans (congrArg some (by kernel_rfl))
  f217 := Tryz.func168.trans (congrArg some (by kernel_rfl))
  f266 := Tryz.func176.trans (congrArg some (by kernel_rfl))
  t3 := Tryz.underlying3
  a3 := Tryz.isAgg3
  z3 := Tryz.sizeOf3
  v3 := Tryz.zeroValue3
  t5 := Tryz.underlying5
  a5 := Tryz.isAgg5
  z5 := Tryz.sizeOf5
  v5 := Tryz.zeroValue5
  t9 := Tryz.underlying9
  a9 := Tryz.isAgg9
  z9 := Tryz.sizeOf9
  v9 := Tryz.zeroValue9 }
def Tryz.lays152_ren : Go.Shelf.Ren := ⟨fun | 152 => 99 | 137 => 136 | 119 => 137 | 224 => 138 | 225 => 139 | 217 => 168 | 266 => 176 | n => n, fun | 9 => 9 | 21 => 21 | 3 => 3 | 4 => 4 | 5 => 5 | 0 => 0 | 46 => 87 | n => n, fun | n => n⟩
theorem Tryz.lays152 : Go.Proofs.Lays.n152 Tryz.prog Tryz.lays152_ren := {
  mixed := by kernel_rfl
  f119 := Tryz.func137.trans (congrArg some (by kernel_rfl))
  f137 := Tryz.func136.trans (congrArg some (by kernel_rfl))
  f152 := Tryz.func99.trans (congrArg some (by kernel_rfl))
  f217 := Tryz.func168.trans (congrArg some (by kernel_rfl))
  f224 := Tryz.func138.trans (congrArg some (by kernel_rfl))
  f225 := Tryz.func139.trans (congrArg some (by kernel_rfl))
  f266 := Tryz.func176.trans (congrArg some (by kernel_rfl))
  t0 := Tryz.underlying0
  a0 := Tryz.isAgg0
  z0 := Tryz.sizeOf0
  v0 := Tryz.zeroValue0
  t3 := Tryz.underlying3
  a3 := Tryz.isAgg3
  z3 := Tryz.sizeOf3
  v3 := Tryz.zeroValue3
  t4 := Tryz.underlying4
  a4 := Tryz.isAgg4
  z4 := Tryz.sizeOf4
  v4 := Tryz.zeroValue4
  t5 := Tryz.underlying5
  a5 := Tryz.isAgg5
  z5 := Tryz.sizeOf5
  v5 := Tryz.zeroValue5
  t9 := Tryz.underlying9
  a9 := Tryz.isAgg9
  z9 := Tryz.sizeOf9
  v9 := Tryz.zeroValue9
  t21 := Tryz.underlying21
  a21 := Tryz.isAgg21
  z21 := Tryz.sizeOf21
  v21 := Tryz.zeroValue21
  t46 := Tryz.underlying87
  a46 := Tryz.isAgg87
  z46 := Tryz.sizeOf87
  v46 := Tryz.zeroValue87 }
def Tryz.lays271_ren : Go.Shelf.Ren := ⟨fun | 271 => 103 | 120 => 140 | 197 => 141 | 260 => 169 | n => n, fun | 9 => 9 | 21 => 21 | 3 => 3 | 4 => 4 | 5 => 5 | 105 => 104 | 119 => 149 | 0 => 0 | 46 => 87 | 139 => 152 | 138 => 151 | n => n, fun | 3 => 2 | 4 => 3 | n => n⟩
theorem Tryz.lays271 : Go.Proofs.Lays.n271 Tryz.prog Tryz.lays271_ren := {
  mixed := by kernel_rfl
  f120 := Tryz.func140.trans (congrArg some (by kernel_rfl))
  f197 := Tryz.func141.trans (congrArg some (by kernel_rfl))
  f260 := Tryz.func169.trans (congrArg some (by kernel_rfl))
  f271 := Tryz.func103.trans (congrArg some (by kernel_rfl))
  t0 := Tryz.underlying0
  a0 := Tryz.isAgg0
  z0 := Tryz.sizeOf0
  v0 := Tryz.zeroValue0
  t3 := Tryz.underlying3
  a3 := Tryz.isAgg3
  z3 := Tryz.sizeOf3
  v3 := Tryz.zeroValue3
  t4 := Tryz.underlying4
  a4 := Tryz.isAgg4
  z4 := Tryz.sizeOf4
  v4 := Tryz.zeroValue4
  t5 := Tryz.underlying5
  a5 := Tryz.isAgg5
  z5 := Tryz.sizeOf5
  v5 := Tryz.zeroValue5
  t9 := Tryz.underlying9
  a9 := Tryz.isAgg9
  z9 := Tryz.sizeOf9
  v9 := Tryz.zeroValue9
  t21 := Tryz.underlying21
  a21 := Tryz.isAgg21
  z21 := Tryz.sizeOf21
  v21 := Tryz.zeroValue21
  t46 := Tryz.underlying87
  a46 := Tryz.isAgg87
  z46 := Tryz.sizeOf87
  v46 := Tryz.zeroValue87
  t105 := Tryz.underlying104
  a105 := Tryz.isAgg104
  z105 := Tryz.sizeOf104
  v105 := Tryz.zeroValue104
  t119 := Tryz.underlying149
  a119 := Tryz.isAgg149
  z119 := Tryz.sizeOf149
  t138 := Tryz.underlying151
  a138 := Tryz.isAgg151
  z138 := Tryz.sizeOf151
  v138 := Tryz.zeroValue151
  t139 := Tryz.underlying152
  a139 := Tryz.isAgg152
  z139 := Tryz.sizeOf152
  v139 := Tryz.zeroValue152
  g3 := by kernel_rfl
  g4 := by kernel_rfl }

end Go.Proofs
namespace Go.FK
open Go.Lib

theorem get!_beyond (s : ByteArray) (i : Nat) (h : ¬ i < s.size) : (s.get! i).toNat = 0 := by
  have : s.get! i = 0 := getElem!_neg s.data i h
  rw [this]; rfl
theorem dec_high (s : ByteArray) (i : Nat) (h : i < s.size) (hb : 128 ≤ (s.get! i).toNat) :
    128 ≤ (Utf8.decode s i).1 ∧ (Utf8.decode s i).1 < 1114112 ∧ 1 ≤ (Utf8.decode s i).2 ∧ i + (Utf8.decode s i).2 ≤ s.size ∧ ∀ j, i ≤ j → j < i + (Utf8.decode s i).2 → 128 ≤ (s.get! j).toNat := by
  rw [decode_at]
  have h0 := UInt8.toNat_lt (s.get! i)
  have h1 := UInt8.toNat_lt (s.get! (i + 1))
  have h2 := UInt8.toNat_lt (s.get! (i + 2))
  have h3 := UInt8.toNat_lt (s.get! (i + 3))
  have key : ∀ n, n ≤ 4 → (1 < n → 128 ≤ (s.get! (i + 1)).toNat) → (2 < n → 128 ≤ (s.get! (i + 2)).toNat) → (3 < n → 128 ≤ (s.get! (i + 3)).toNat) → ∀ j, i ≤ j → j < i + n → 128 ≤ (s.get! j).toNat := by
    intro n hn k1 k2 k3 j hj1 hj2
    rcases (show j = i ∨ j = i + 1 ∨ j = i + 2 ∨ j = i + 3 by omega) with e | e | e | e <;> subst e
    · exact hb
    · exact k1 (by omega)
    · exact k2 (by omega)
    · exact k3 (by omega)
  generalize (s.get! i).toNat = b0 at *
  generalize (s.get! (i + 1)).toNat = b1 at *
  generalize (s.get! (i + 2)).toNat = b2 at *
  generalize (s.get! (i + 3)).toNat = b3 at *
  unfold decodeN
  rw [if_neg (by omega)]
  split
  · rename_i c
    split
    · exact ⟨by simp only; omega, by simp only; omega, by simp, by simp only; omega, key 2 (by omega) (by omega) (by omega) (by omega)⟩
    · exact ⟨by simp, by simp, by simp, by simp only; omega, key 1 (by omega) (by omega) (by omega) (by omega)⟩
  · split
    · rename_i c
      split
      · exact ⟨by simp only; omega, by simp only; omega, by simp, by simp only; omega, key 3 (by omega) (by omega) (by omega) (by omega)⟩
      · exact ⟨by simp, by simp, by simp, by simp only; omega, key 1 (by omega) (by omega) (by omega) (by omega)⟩
    · split
      · rename_i c
        split
        · exact ⟨by simp only; omega, by simp only; omega, by simp, by simp only; omega, key 4 (by omega) (by omega) (by omega) (by omega)⟩
        · exact ⟨by simp, by simp, by simp, by simp only; omega, key 1 (by omega) (by omega) (by omega) (by omega)⟩
      · exact ⟨by simp, by simp, by simp, by simp only; omega, key 1 (by omega) (by omega) (by omega) (by omega)⟩
end Go.FK

namespace Go.FK
def utf8First : List Int := (List.range 256).map fun b => ((Go.Lib.firstT b : Nat) : Int)
def utf8Acc : List Int := [128, 191, 160, 191, 128, 159, 144, 191, 128, 143, 0, 0, 0, 0, 0, 0, 0, 0, 0, 0, 0, 0, 0, 0, 0, 0, 0, 0, 0, 0, 0, 0]
def idxF (s : ByteArray) (r : Int) (o : Option Int) : Option Int := bif decide (s.data = #[43, 45]) && decide (r = 65533) then some (-1) else o
def decC (s : ByteArray) : Bool := decide (0 < s.size) && decide (s.size ≤ 1000) && decide (128 ≤ (s.get! (s.size - 1)).toNat)
def decF (s : ByteArray) (o : Option (Int × Int)) : Option (Int × Int) := bif decC s then some (((Go.Lib.decodeLastL s.data.toList).1 : Int), ((Go.Lib.decodeLastL s.data.toList).2 : Int)) else o
abbrev PM' : ByteArray := ByteArray.mk #[43, 45]
theorem enc_high (r : Nat) (h : 128 ≤ r) : (∃ x y : UInt8, Utf8.encode (r : Int) = ByteArray.mk #[x, y] ∧ 128 ≤ y.toNat) ∨ (Utf8.encode (r : Int)).size = 3 ∨ (Utf8.encode (r : Int)).size = 4 := by
  unfold Utf8.encode
  generalize hc : (if Utf8.valid (r : Int) then (r : Int).toNat else Utf8.runeError) = c
  have h2 : 128 ≤ c := by
    rw [← hc]
    split
    · omega
    · decide
  simp only
  rw [if_neg (by omega)]
  split
  · left
    refine ⟨_, _, rfl, ?_⟩
    rw [UInt8.toNat_ofNat']
    omega
  · right
    split
    · exact .inl rfl
    · exact .inr rfl
end Go.FK
namespace Go.Proofs
open Go.Shelf
theorem Tryz.strings_IndexByte (s : ByteArray) (c : Int) (w : World) :
    Calls Tryz.prog 136 #[.string s, .int .u8 c] w fun e w' => e = .returned (.int .i64 (Lib.indexByte s.data.toList c.toNat.toUInt8)) ∧ w' = w := Any.strings_IndexByte Tryz.lays137 s c w
end Go.Proofs
namespace Go.Proofs.YtfalcbkhleobdaaGreatDoor
open Go.Shelf Go.RowKit Go.Lib

set_option maxHeartbeats 8000000 in
set_option maxRecDepth 1000000 in
theorem rune_err (w : World) : Calls Tryz.prog 99 #[.string ⟨#[43, 45]⟩, .int .i32 65533] w fun e w' => e = .returned (.int .i64 (-1)) ∧ Below w.heap.size w w' := by
  have t3 := Tryz.underlying3; have a3 := Tryz.isAgg3; have z3 := Tryz.sizeOf3; have v3 := Tryz.zeroValue3
  have t4 := Tryz.underlying4; have a4 := Tryz.isAgg4; have z4 := Tryz.sizeOf4; have v4 := Tryz.zeroValue4
  have t5 := Tryz.underlying5; have a5 := Tryz.isAgg5; have z5 := Tryz.sizeOf5; have v5 := Tryz.zeroValue5
  have t9 := Tryz.underlying9; have a9 := Tryz.isAgg9; have z9 := Tryz.sizeOf9; have v9 := Tryz.zeroValue9
  have t21 := Tryz.underlying21; have a21 := Tryz.isAgg21; have z21 := Tryz.sizeOf21; have v21 := Tryz.zeroValue21
  have e136 : ∀ args w, (callFunc 136 args).run Tryz.prog w = .ok (.enter 136 args) w := enters_of Tryz.func136 (by kernel_rfl) rfl
  have e137 : ∀ args w, (callFunc 137 args).run Tryz.prog w = .ok (.enter 137 args) w := enters_of Tryz.func137 (by kernel_rfl) rfl
  go_enter Tryz.func99, (show Tryz.f99.ntmps = 187 from rfl)
  go_wp2
  go_loopg [5, 6] 2 (fun g _ _ wx => ∃ i : Nat, i + g = 2 ∧ wx = w.iter ⟨#[43, 45]⟩ i)
  case atStart => exact ⟨0, by omega, rfl⟩
  case round =>
    obtain ⟨i, hig, rfl⟩ := hrel
    have hb : Aside (∀ j, Below w.heap.size w (w.iter ⟨#[43, 45]⟩ j)) := fun j => (Below.refl _ _).alloc (Nat.le_refl _) _
    rcases (show i = 0 ∨ i = 1 ∨ i = 2 by omega) with h | h | h <;> subst h
    · have hnx := fun ty => run_next_ascii (P := Tryz.prog) w ⟨#[43, 45]⟩ 0 ty (by decide) (by decide)
      have hv : ((⟨#[43, 45]⟩ : ByteArray)[0]'(by decide)).toNat = 43 := rfl
      rw [hv] at hnx
      go_wp2
      go_roundg 1
      case measure => omega
      case rel => exact ⟨1, by omega, rfl⟩
    · have hnx := fun ty => run_next_ascii (P := Tryz.prog) w ⟨#[43, 45]⟩ 1 ty (by decide) (by decide)
      have hv : ((⟨#[43, 45]⟩ : ByteArray)[1]'(by decide)).toNat = 45 := rfl
      rw [hv] at hnx
      go_wp2
      go_roundg 0
      case measure => omega
      case rel => exact ⟨2, by omega, rfl⟩
    · have hnx := fun ty => run_next_end (P := Tryz.prog) w ⟨#[43, 45]⟩ 2 ty (by decide)
      go_wp2
      go_ret
      exact ⟨rfl, hb.out _⟩

open Go.FK in
theorem idx_contract {F : ByteArray → Int → Option Int} (h0 : Contract Tryz.prog 99 ⟨[.str, .int .i32], [.int .i64], fun (x : ByteArray × Int) => F x.1 x.2⟩) :
    Contract Tryz.prog 99 ⟨[.str, .int .i32], [.int .i64], fun (x : ByteArray × Int) => idxF x.1 x.2 (F x.1 x.2)⟩ := by
  intro x r hx M w vs hM hgl hvs
  have hr : idxF x.1 x.2 (F x.1 x.2) = some r := hx
  unfold idxF at hr
  cases hc : (decide (x.1.data = #[43, 45]) && decide (x.2 = 65533)) with
  | false =>
    rw [hc] at hr
    exact h0 x r hr M w vs hM hgl hvs
  | true =>
    rw [hc] at hr
    simp only [cond_true, Option.some.injEq] at hr
    simp only [Bool.and_eq_true, decide_eq_true_eq] at hc
    match vs, hvs with
    | [u, v], ⟨h1, h2, _⟩ =>
      have e1 : u = .string x.1 := repV_str h1
      have e2 : v = .int .i32 x.2 := repV_int h2
      have e3 : x.1 = ⟨#[43, 45]⟩ := by rw [← hc.1]
      subst e1 e2
      rw [e3, hc.2]
      left
      refine ⟨by kernel_rfl, ?_⟩
      refine Calls.mono (rune_err w) ?_
      rintro e w' ⟨he, hb⟩
      rw [hr] at he
      exact ⟨[.int .i64 r], by rw [he]; rfl, ⟨int_repV _ _ _ _, trivial⟩, hb⟩

open Go.FK in
theorem tabs_of {M : Nat → Prop} {w : World} (h : Gl M w) : Lib.Utf8Tabs 2 3 w := by
  have g2 : glob 2 = some (.u8, utf8First) := by kernel_rfl
  have g3 : glob 3 = some (.u8, utf8Acc) := by kernel_rfl
  have a2 := (h 2 _ _ g2).2.2
  have a3 := (h 3 _ _ g3).2.2
  have f2 : ∀ c : Fin 256, utf8First[c.val]? = some ((firstT c.val : Nat) : Int) := by decide +kernel
  have f3 : ∀ i : Fin 16, utf8Acc[2 * i.val]? = some ((accLo i.val : Nat) : Int) ∧ utf8Acc[2 * i.val + 1]? = some ((accHi i.val : Nat) : Int) := by decide +kernel
  have ad : ∀ g j : Nat, (⟨g, 0, none⟩ : Addr).add j = ⟨g, j, none⟩ := fun g j => by unfold Addr.add; split <;> simp_all
  refine ⟨fun c hc => ?_, fun i hi => ⟨?_, ?_⟩⟩
  · have := a2 c _ (f2 ⟨c, hc⟩); rwa [ad] at this
  · have := a3 (2 * i) _ (f3 ⟨i, hi⟩).1; rwa [ad] at this
  · have := a3 (2 * i + 1) _ (f3 ⟨i, hi⟩).2; rwa [ad] at this

open Go.FK in
theorem dec_contract {F : ByteArray → Option (Int × Int)} (h0 : Contract Tryz.prog 103 ⟨[.str], [.int .i32, .int .i64], fun (x : ByteArray) => F x⟩) :
    Contract Tryz.prog 103 ⟨[.str], [.int .i32, .int .i64], fun (x : ByteArray) => decF x (F x)⟩ := by
  intro x r hx M w vs hM hgl hvs
  have hr : decF x (F x) = some r := hx
  unfold decF at hr
  cases hc : decC x with
  | false =>
    rw [hc] at hr
    exact h0 x r hr M w vs hM hgl hvs
  | true =>
    rw [hc] at hr
    simp only [cond_true, Option.some.injEq] at hr
    unfold decC at hc
    simp only [Bool.and_eq_true, decide_eq_true_eq] at hc
    match vs, hvs with
    | [u], ⟨h1, _⟩ =>
      have e1 : u = .string x := repV_str h1
      subst e1
      left
      refine ⟨by kernel_rfl, ?_⟩
      refine Calls.mono (show Calls Tryz.prog 103 #[.string x] w _ from Any.utf8_DecodeLastRuneInString Tryz.lays271 x w (by omega) (tabs_of hgl)) ?_
      rintro e w' ⟨he, hb⟩
      exact ⟨[.int .i32 r.1, .int .i64 r.2], by rw [he, ← hr]; rfl, ⟨int_repV _ _ _ _, int_repV _ _ _ _, trivial⟩, hb⟩
end Go.Proofs.YtfalcbkhleobdaaGreatDoor

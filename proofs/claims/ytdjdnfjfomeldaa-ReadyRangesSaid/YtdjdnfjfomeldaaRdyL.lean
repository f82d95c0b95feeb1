/- math/bits.Len64, walked as the shelf's template for it walks it. -/
import Derived.Test.YtdjdnfjfomeldaaFrame
import Derived.Test.YtdjdnfjfomeldaaRows
import Derived.Lib.Strings
import Derived.Lib.Slices
import Derived.Lib.Small
import Derived.Lib.Walk
import Derived.Lib.BitFns
namespace Go.Proofs.Ytdjdnfjfomeldaa.QD
open Go.RowKit Go.Fr

set_option maxHeartbeats 4000000 in
set_option maxRecDepth 100000 in
theorem len64_ok (x : Int) (w : World) (h0 : 0 ≤ x) (h1 : x ≤ 18446744073709551615) :
    Calls Try.prog 51 #[.int .u64 x] w fun e w' => e = .returned (.int .i64 (Lib.bitLen x.toNat)) ∧ w' = w := by
  by_cases g0 : 4294967296 ≤ x
  · by_cases g1 : 65536 ≤ x / 4294967296
    · by_cases g2 : 256 ≤ x / 4294967296 / 65536
      · have i0 : 0 ≤ x / 4294967296 / 65536 / 256 := by omega
        have i1 : x / 4294967296 / 65536 / 256 ≤ 255 := by omega
        go_enter Try.func51, Try.ntmps51
        go_wp2
        go_ret
        refine ⟨congrArg Ending.returned (congrArg (Value.int IntKind.i64) ?_), rfl⟩
        rw [Lib.len8_of (x / 4294967296 / 65536 / 256) i0 i1]
        have e : (x / 4294967296 / 65536 / 256).toNat = x.toNat / 72057594037927936 := by omega
        have l := Lib.bitLen_le8' (x / 4294967296 / 65536 / 256) i0 i1
        have s := Lib.bitLen_shift56 x.toNat (by omega) (by omega)
        rw [e] at l ⊢
        obtain ⟨B, hB⟩ : ∃ B, Lib.bitLen (x.toNat / 72057594037927936) = B := ⟨_, rfl⟩
        rw [hB] at l s ⊢
        rw [show wrap64 (B : Int) = B from IntWalk.wrap64_in _ (by omega), IntWalk.wrap64_in _ (by omega)]
        omega
      · have i0 : 0 ≤ x / 4294967296 / 65536 := by omega
        have i1 : x / 4294967296 / 65536 ≤ 255 := by omega
        go_enter Try.func51, Try.ntmps51
        go_wp2
        go_ret
        refine ⟨congrArg Ending.returned (congrArg (Value.int IntKind.i64) ?_), rfl⟩
        rw [Lib.len8_of (x / 4294967296 / 65536) i0 i1]
        have e : (x / 4294967296 / 65536).toNat = x.toNat / 281474976710656 := by omega
        have l := Lib.bitLen_le8' (x / 4294967296 / 65536) i0 i1
        have s := Lib.bitLen_shift48 x.toNat (by omega) (by omega)
        rw [e] at l ⊢
        obtain ⟨B, hB⟩ : ∃ B, Lib.bitLen (x.toNat / 281474976710656) = B := ⟨_, rfl⟩
        rw [hB] at l s ⊢
        rw [show wrap64 (B : Int) = B from IntWalk.wrap64_in _ (by omega), IntWalk.wrap64_in _ (by omega)]
        omega
    · by_cases g2 : 256 ≤ x / 4294967296
      · have i0 : 0 ≤ x / 4294967296 / 256 := by omega
        have i1 : x / 4294967296 / 256 ≤ 255 := by omega
        go_enter Try.func51, Try.ntmps51
        go_wp2
        go_ret
        refine ⟨congrArg Ending.returned (congrArg (Value.int IntKind.i64) ?_), rfl⟩
        rw [Lib.len8_of (x / 4294967296 / 256) i0 i1]
        have e : (x / 4294967296 / 256).toNat = x.toNat / 1099511627776 := by omega
        have l := Lib.bitLen_le8' (x / 4294967296 / 256) i0 i1
        have s := Lib.bitLen_shift40 x.toNat (by omega) (by omega)
        rw [e] at l ⊢
        obtain ⟨B, hB⟩ : ∃ B, Lib.bitLen (x.toNat / 1099511627776) = B := ⟨_, rfl⟩
        rw [hB] at l s ⊢
        rw [show wrap64 (B : Int) = B from IntWalk.wrap64_in _ (by omega), IntWalk.wrap64_in _ (by omega)]
        omega
      · have i0 : 0 ≤ x / 4294967296 := by omega
        have i1 : x / 4294967296 ≤ 255 := by omega
        go_enter Try.func51, Try.ntmps51
        go_wp2
        go_ret
        refine ⟨congrArg Ending.returned (congrArg (Value.int IntKind.i64) ?_), rfl⟩
        rw [Lib.len8_of (x / 4294967296) i0 i1]
        have e : (x / 4294967296).toNat = x.toNat / 4294967296 := by omega
        have l := Lib.bitLen_le8' (x / 4294967296) i0 i1
        have s := Lib.bitLen_shift32 x.toNat (by omega) (by omega)
        rw [e] at l ⊢
        obtain ⟨B, hB⟩ : ∃ B, Lib.bitLen (x.toNat / 4294967296) = B := ⟨_, rfl⟩
        rw [hB] at l s ⊢
        rw [show wrap64 (B : Int) = B from IntWalk.wrap64_in _ (by omega), IntWalk.wrap64_in _ (by omega)]
        omega
  · by_cases g1 : 65536 ≤ x
    · by_cases g2 : 256 ≤ x / 65536
      · have i0 : 0 ≤ x / 65536 / 256 := by omega
        have i1 : x / 65536 / 256 ≤ 255 := by omega
        go_enter Try.func51, Try.ntmps51
        go_wp2
        go_ret
        refine ⟨congrArg Ending.returned (congrArg (Value.int IntKind.i64) ?_), rfl⟩
        rw [Lib.len8_of (x / 65536 / 256) i0 i1]
        have e : (x / 65536 / 256).toNat = x.toNat / 16777216 := by omega
        have l := Lib.bitLen_le8' (x / 65536 / 256) i0 i1
        have s := Lib.bitLen_shift24 x.toNat (by omega) (by omega)
        rw [e] at l ⊢
        obtain ⟨B, hB⟩ : ∃ B, Lib.bitLen (x.toNat / 16777216) = B := ⟨_, rfl⟩
        rw [hB] at l s ⊢
        rw [show wrap64 (B : Int) = B from IntWalk.wrap64_in _ (by omega), IntWalk.wrap64_in _ (by omega)]
        omega
      · have i0 : 0 ≤ x / 65536 := by omega
        have i1 : x / 65536 ≤ 255 := by omega
        go_enter Try.func51, Try.ntmps51
        go_wp2
        go_ret
        refine ⟨congrArg Ending.returned (congrArg (Value.int IntKind.i64) ?_), rfl⟩
        rw [Lib.len8_of (x / 65536) i0 i1]
        have e : (x / 65536).toNat = x.toNat / 65536 := by omega
        have l := Lib.bitLen_le8' (x / 65536) i0 i1
        have s := Lib.bitLen_shift16 x.toNat (by omega) (by omega)
        rw [e] at l ⊢
        obtain ⟨B, hB⟩ : ∃ B, Lib.bitLen (x.toNat / 65536) = B := ⟨_, rfl⟩
        rw [hB] at l s ⊢
        rw [show wrap64 (B : Int) = B from IntWalk.wrap64_in _ (by omega), IntWalk.wrap64_in _ (by omega)]
        omega
    · by_cases g2 : 256 ≤ x
      · have i0 : 0 ≤ x / 256 := by omega
        have i1 : x / 256 ≤ 255 := by omega
        go_enter Try.func51, Try.ntmps51
        go_wp2
        go_ret
        refine ⟨congrArg Ending.returned (congrArg (Value.int IntKind.i64) ?_), rfl⟩
        rw [Lib.len8_of (x / 256) i0 i1]
        have e : (x / 256).toNat = x.toNat / 256 := by omega
        have l := Lib.bitLen_le8' (x / 256) i0 i1
        have s := Lib.bitLen_shift8 x.toNat (by omega) (by omega)
        rw [e] at l ⊢
        obtain ⟨B, hB⟩ : ∃ B, Lib.bitLen (x.toNat / 256) = B := ⟨_, rfl⟩
        rw [hB] at l s ⊢
        rw [show wrap64 (B : Int) = B from IntWalk.wrap64_in _ (by omega), IntWalk.wrap64_in _ (by omega)]
        omega
      · have i0 : 0 ≤ x := by omega
        have i1 : x ≤ 255 := by omega
        go_enter Try.func51, Try.ntmps51
        go_wp2
        go_ret
        refine ⟨congrArg Ending.returned (congrArg (Value.int IntKind.i64) ?_), rfl⟩
        rw [Lib.len8_of (x) i0 i1]
        have l := Lib.bitLen_le8' (x) i0 i1
        obtain ⟨B, hB⟩ : ∃ B, Lib.bitLen x.toNat = B := ⟨_, rfl⟩
        rw [hB] at l ⊢
        rw [show wrap64 (B : Int) = B from IntWalk.wrap64_in _ (by omega), IntWalk.wrap64_in _ (by omega)]
end Go.Proofs.Ytdjdnfjfomeldaa.QD

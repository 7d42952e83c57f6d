/- Contracts: math/bits.OnesCount64, OnesCount. -/
import Derived.Test.YtadejjpcdpmpkaaPopN
import Derived.Test.YtadejjpcdpmpkaaBase
import Derived.Laws.BitsAllLaws
import Derived.Laws.BitsLemmas
import Derived.Laws.Bits64b
import Derived.WalkKit
namespace Go.Proofs.Ytadejjpcdpmpkaa
open Go.RowKit

theorem ofInt_n64 (a : Nat) (ha : a < 18446744073709551616) : (BitVec.ofInt 64 (a : Int)).toNat = a := by
  rw [BitVec.ofInt_natCast, BitVec.toNat_ofNat]; exact Nat.mod_eq_of_lt (by omega)
theorem i64_and_nat (a b : Nat) (ha : a < 9223372036854775808) (hb : b < 9223372036854775808) : bits .and .i64 (a : Int) (b : Int) = ((a &&& b : Nat) : Int) := by
  have hx : a &&& b < 2 ^ 63 := Nat.and_lt_two_pow _ (by omega)
  show IntKind.i64.wrap ((BitVec.ofInt 64 (a : Int) &&& BitVec.ofInt 64 (b : Int)).toNat : Int) = _
  rw [BitVec.toNat_and, ofInt_n64 a (by omega), ofInt_n64 b (by omega), IntKind.wrap_i64]
  omega
theorem u64_wrap (a : Nat) (ha : a < 18446744073709551616) : IntKind.u64.wrap (a : Int) = a := by
  simp [IntKind.wrap, IntKind.bits, IntKind.signed]; omega
theorem msk_eq : msk 0x55 8 = 6148914691236517205 ∧ msk 0x33 8 = 3689348814741910323 ∧ msk 0x0f 8 = 1085102592571150095 := by decide
/-- the sums as the code makes them -/
theorem pop_code (x : Nat) (hx : x < 18446744073709551616) : ∃ a1 a2 b1 b2 s3 x3 x6 : Nat,
    bits .and .u64 ((x : Int) / 2) 6148914691236517205 = a1 ∧ bits .and .u64 (x : Int) 6148914691236517205 = a2 ∧ IntKind.u64.wrap ((a1 : Int) + a2) = ((a1 + a2 : Nat) : Int) ∧
    bits .and .u64 (((a1 + a2 : Nat) : Int) / 4) 3689348814741910323 = b1 ∧ bits .and .u64 ((a1 + a2 : Nat) : Int) 3689348814741910323 = b2 ∧ IntKind.u64.wrap ((b1 : Int) + b2) = ((b1 + b2 : Nat) : Int) ∧
    IntKind.u64.wrap (((b1 + b2 : Nat) : Int) / 16 + ((b1 + b2 : Nat) : Int)) = s3 ∧ bits .and .u64 (s3 : Int) 1085102592571150095 = x3 ∧
    x3 ≤ 578721382704613384 ∧ x6 = x3 + x3 / 256 + (x3 + x3 / 256) / 65536 + (x3 + x3 / 256 + (x3 + x3 / 256) / 65536) / 4294967296 ∧ x6 % 128 = bitsCnt 64 x := by
  obtain ⟨m1, m2, m3⟩ := msk_eq
  have h1 := Nat.and_le_right (n := x / 2) (m := 6148914691236517205)
  have h2 := Nat.and_le_right (n := x) (m := 6148914691236517205)
  obtain ⟨a1, ha1⟩ : ∃ a, x / 2 &&& 6148914691236517205 = a := ⟨_, rfl⟩
  obtain ⟨a2, ha2⟩ : ∃ a, x &&& 6148914691236517205 = a := ⟨_, rfl⟩
  rw [ha1] at h1
  rw [ha2] at h2
  have hp1 : pa 8 x = a1 + a2 := by unfold pa; rw [m1, ha1, ha2]
  have h3 := Nat.and_le_right (n := (a1 + a2) / 4) (m := 3689348814741910323)
  have h4 := Nat.and_le_right (n := a1 + a2) (m := 3689348814741910323)
  obtain ⟨b1, hb1⟩ : ∃ a, (a1 + a2) / 4 &&& 3689348814741910323 = a := ⟨_, rfl⟩
  obtain ⟨b2, hb2⟩ : ∃ a, (a1 + a2) &&& 3689348814741910323 = a := ⟨_, rfl⟩
  rw [hb1] at h3
  rw [hb2] at h4
  have hp2 : pb 8 (pa 8 x) = b1 + b2 := by rw [hp1]; unfold pb; rw [m2, hb1, hb2]
  obtain ⟨x3, hx3⟩ : ∃ a, ((b1 + b2) / 16 + (b1 + b2)) &&& 1085102592571150095 = a := ⟨_, rfl⟩
  have hp3 : x3 = pAll 8 x := by unfold pAll; rw [hp2]; unfold pc; rw [m3, hx3]
  obtain ⟨hbd, hsum⟩ := pop_sum x x3 hp3
  refine ⟨a1, a2, b1, b2, (b1 + b2) / 16 + (b1 + b2), x3, _, ?_, ?_, ?_, ?_, ?_, ?_, ?_, ?_, hbd, rfl, hsum⟩
  · rw [show (x : Int) / 2 = ((x / 2 : Nat) : Int) by omega, ← ha1]; exact bits_and_u64_nat _ 6148914691236517205 (by omega) (by omega)
  · rw [← ha2]; exact bits_and_u64_nat _ 6148914691236517205 (by omega) (by omega)
  · rw [← Int.natCast_add]; exact u64_wrap _ (by omega)
  · rw [show ((a1 + a2 : Nat) : Int) / 4 = (((a1 + a2) / 4 : Nat) : Int) by omega, ← hb1]; exact bits_and_u64_nat _ 3689348814741910323 (by omega) (by omega)
  · rw [← hb2]; exact bits_and_u64_nat _ 3689348814741910323 (by omega) (by omega)
  · rw [← Int.natCast_add]; exact u64_wrap _ (by omega)
  · rw [show ((b1 + b2 : Nat) : Int) / 16 + ((b1 + b2 : Nat) : Int) = (((b1 + b2) / 16 + (b1 + b2) : Nat) : Int) by omega]; exact u64_wrap _ (by omega)
  · rw [← hx3]; exact bits_and_u64_nat _ 1085102592571150095 (by omega) (by omega)
set_option maxRecDepth 100000 in
set_option maxHeartbeats 2000000 in
theorem ones64_any (x : Nat) (hx : x < 18446744073709551616) (w : World) :
    Calls Try.prog 74 #[.int .u64 (x : Int)] w fun e w' => e = .returned (.int .i64 (bitsCnt 64 x : Nat)) ∧ w = w' := by
  obtain ⟨a1, a2, b1, b2, s3, x3, x6, f1, f2, f3, f4, f5, f6, f7, f8, hbd, h6, hs⟩ := pop_code x hx
  have f9 : IntKind.u64.wrap ((x3 : Int) + (x3 : Int) / 256) = ((x3 + x3 / 256 : Nat) : Int) := by rw [show (x3 : Int) + (x3 : Int) / 256 = ((x3 + x3 / 256 : Nat) : Int) by omega]; exact u64_wrap _ (by omega)
  obtain ⟨x4, hx4⟩ : ∃ y, x3 + x3 / 256 = y := ⟨_, rfl⟩
  rw [hx4] at f9 h6
  have f10 : IntKind.u64.wrap ((x4 : Int) + (x4 : Int) / 65536) = ((x4 + x4 / 65536 : Nat) : Int) := by rw [show (x4 : Int) + (x4 : Int) / 65536 = ((x4 + x4 / 65536 : Nat) : Int) by omega]; exact u64_wrap _ (by omega)
  obtain ⟨x5, hx5⟩ : ∃ y, x4 + x4 / 65536 = y := ⟨_, rfl⟩
  rw [hx5] at f10 h6
  have f11 : IntKind.u64.wrap ((x5 : Int) + (x5 : Int) / 4294967296) = ((x5 + x5 / 4294967296 : Nat) : Int) := by rw [show (x5 : Int) + (x5 : Int) / 4294967296 = ((x5 + x5 / 4294967296 : Nat) : Int) by omega]; exact u64_wrap _ (by omega)
  rw [← h6] at f11
  have f12 : IntKind.i64.wrap (x6 : Int) = x6 := IntWalk.i64_in _ (by omega)
  have f13 : bits .and .i64 (x6 : Int) 127 = ((x6 % 128 : Nat) : Int) := by
    have h := i64_and_nat x6 127 (by omega) (by omega)
    rw [show (127 : Nat) = 2 ^ 7 - 1 from rfl, Nat.and_two_pow_sub_one_eq_mod] at h
    exact h
  rw [hs] at f13
  obtain ⟨y1, hy1⟩ : ∃ y, a1 + a2 = y := ⟨_, rfl⟩
  obtain ⟨y2, hy2⟩ : ∃ y, b1 + b2 = y := ⟨_, rfl⟩
  rw [hy1] at f3 f4 f5
  rw [hy2] at f6 f7
  clear hs h6 hx4 hx5 hy1 hy2 hbd hx
  go_enter Try.func74, Try.ntmps74
  go_wp2
  go_ret
  exact ⟨rfl, rfl⟩
set_option maxHeartbeats 2000000 in
theorem ones_any (x : Nat) (hx : x < 18446744073709551616) (w : World) :
    Calls Try.prog 73 #[.int .u64 (x : Int)] w fun e w' => e = .returned (.int .i64 (bitsCnt 64 x : Nat)) ∧ w = w' := by
  go_enter Try.func73, Try.ntmps73
  go_wp2_with fail
  refine (ones64_any x hx _).mono ?_
  rintro e w' ⟨rfl, rfl⟩
  go_wp2
  go_ret
  exact ⟨rfl, rfl⟩
end Go.Proofs.Ytadejjpcdpmpkaa

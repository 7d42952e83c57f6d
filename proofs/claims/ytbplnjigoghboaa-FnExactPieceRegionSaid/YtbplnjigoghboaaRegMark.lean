/- Contracts: marks in the cells of a region, and what holds them. -/
import Derived.Test.YtbplnjigoghboaaApp
namespace Go.Proofs.Ytbplnjigoghboaa
open Go.RowKit

def mark3 (x : Int) : Bool := x % 3 == 0
def marks3 (k : Int) (n : Nat) : List Bool := (List.range n).map fun i : Nat => mark3 (k + (i : Int))
theorem marks3_len (k : Int) (n : Nat) : (marks3 k n).length = n := by simp [marks3]
/-- a row of marks, the first i of them written -/
def marked3 (k : Int) (xs : List Value) (i : Nat) : List Value := (marks3 k i).map .bool ++ xs.drop i
theorem marked3_zero (k : Int) (xs : List Value) : marked3 k xs 0 = xs := by simp [marked3, marks3]
theorem marked3_all (k : Int) (xs : List Value) : marked3 k xs xs.length = (marks3 k xs.length).map .bool := by simp [marked3]
theorem marked3_len (k : Int) (xs : List Value) (i : Nat) (h : i ≤ xs.length) : (marked3 k xs i).length = xs.length := by simp [marked3, marks3_len]; omega
theorem marked3_step (k : Int) (xs : List Value) (i : Nat) (h : i < xs.length) : (marked3 k xs i).set i (.bool (mark3 (k + i))) = marked3 k xs (i + 1) := by
  unfold marked3
  rw [List.set_append_right _ _ (by simp [marks3_len])]
  have h1 : ((marks3 k i).map Value.bool).length = i := by simp [marks3_len]
  rw [h1, Nat.sub_self, List.drop_eq_getElem_cons h, List.set_cons_zero]
  unfold marks3
  rw [List.range_succ]; simp
theorem mark3_cmp {k : Int} (h : 0 ≤ k) : (k.tmod 3 == 0) = mark3 k := by unfold mark3; rw [Int.tmod_eq_emod_of_nonneg h]

set_option maxHeartbeats 800000 in
theorem markBoolV_any (A : Option Addr) (n c : Nat) (xs : List Value) (k : Int) (w : World) (lo : Nat) (h : Wr w lo 4 A xs) (hx : xs.length = n) (hn : n ≤ 1000000000000) (k0 : 0 ≤ k) (k1 : k ≤ 1000000000000) :
    Calls Try.prog 115 #[.slice A n c, .int .i64 k] w fun e w' => e = .returned (.int .i64 (k + n)) ∧ Wr w' lo 4 A ((marks3 k n).map .bool) ∧ w.grownBy w' (A.map (·.block)) ∧ (n = 0 → w.grownBy w' none) := by
  have HX := Lib.hid hx
  clear hx
  go_enter Try.func115, Try.ntmps115
  go_wp2
  go_loopw [1, 5] (fun v i wr => ∃ j : Nat, j ≤ n ∧ i = .int .i64 j ∧ v = .int .i64 (k + j) ∧ Wr wr lo 4 A (marked3 k xs j) ∧ w.grownBy wr (A.map (·.block)) ∧ (n = 0 → w.grownBy wr none)) (fun _ i _ => n - (intOf i).toNat)
  case atStart => exact ⟨0, Nat.zero_le _, rfl, by go_num, by rw [marked3_zero]; exact h, World.grownBy.refl _ _, fun _ => World.grownBy.refl _ _⟩
  case round =>
    obtain ⟨j, hj, rfl, rfl, hw, hg, hg0⟩ := hrel
    by_cases hlt : j < n
    · have hl := (marked3_len k xs j (by rw [HX.out]; exact hj)).trans HX.out
      have HS := Lib.hid (marked3_step k xs j (by rw [HX.out]; exact hlt))
      have hne : marked3 k xs j ≠ [] := by intro e; rw [e] at hl; simp at hl; omega
      obtain ⟨g, rfl, hlo, hgs, hfr⟩ := hw.form hne
      have hf := hfr j
      obtain ⟨ad, e, hc⟩ := hw.rd.at_ (k := j) (by rw [hl]; exact hlt)
      have e' : ad = ⟨g, 0, none⟩ := by injection e with e; exact e.symm
      subst e'
      have ha : (⟨g, 0, none⟩ : Addr).add j = ⟨g, j, none⟩ := by unfold Addr.add; split <;> simp_all
      rw [ha] at hc
      obtain ⟨ov, hc2⟩ : ∃ ov, wr.cell? ⟨g, j, none⟩ = some ov := ⟨_, hc⟩
      have hm : ((k + (j : Int)) % 3 == 0) = mark3 (k + j) := rfl
      clear hfr e ha hne hc hl
      go_wp2
      refine ⟨⟨j + 1, by omega, by go_num, by go_num, ?_, ?_, fun e => by omega⟩, by simp [intOf]; omega⟩
      · rw [← HS.out]; exact hw.store j _
      · refine grownBy_trans' hg ⟨rfl, rfl, rfl, by simp [World.setCell], fun i hi hn => Below.heap_setCell _ _ _ _ (fun e => hn (by simp [e]))⟩
    · obtain rfl : j = n := by omega
      have he := marked3_all k xs
      rw [HX.out] at he
      have HE := Lib.hid he
      clear he
      go_wp2
      go_ret
      refine ⟨rfl, ?_, hg, hg0⟩
      rw [← HE.out]; exact hw
set_option maxHeartbeats 800000 in
theorem markRegionV_any (W T : Int) (A : Option Addr) (n c : Nat) (xs : List Value) (k : Int) (w : World) (lo : Nat) (h : Wr w lo 4 A xs) (hx : xs.length = n) (hn : n ≤ 1000000000000) (k0 : 0 ≤ k) (k1 : k ≤ 1000000000000) :
    Calls Try.prog 47 #[.agg #[.int .i64 W, .int .i64 T, .slice A n c], .int .i64 k] w fun e w' => e = .returned (.int .i64 (k + n)) ∧ Wr w' lo 4 A ((marks3 k n).map .bool) ∧ w.grownBy w' (A.map (·.block)) ∧ (n = 0 → w.grownBy w' none) := by
  go_enter Try.func47, Try.ntmps47
  go_wp2_with fail
  refine (markBoolV_any _ _ _ _ _ _ _ (h.belo (bl_alloc (Below.refl _ _) _)) hx hn k0 k1).mono ?_
  rintro e w1 ⟨rfl, h1, hg, hg0⟩
  go_wp2
  go_ret
  exact ⟨rfl, h1, grownBy_trans' (World.grownBy_alloc _ _ _) hg, fun e => grownBy_trans' (World.grownBy_alloc _ _ _) (hg0 e)⟩

set_option maxHeartbeats 800000 in
theorem heldBoolS_any (A : Option Addr) (n c : Nat) (k : Int) (w : World) (h : Rd w A ((marks3 k n).map .bool)) (hn : n ≤ 1000000000000) (k0 : 0 ≤ k) (k1 : k ≤ 1000000000000) :
    Calls Try.prog 116 #[.slice A n c, .int .i64 k] w fun e w' => e = .returned (.int .i64 (k + n)) ∧ w = w' := by
  go_enter Try.func116, Try.ntmps116
  go_wp2
  go_loop [1, 5] (fun v i => ∃ j : Nat, j ≤ n ∧ i = .int .i64 j ∧ v = .int .i64 (k + j)) (fun _ i => n - (intOf i).toNat)
  case atStart => exact ⟨0, Nat.zero_le _, rfl, by go_num⟩
  case round =>
    obtain ⟨j, hj, rfl, rfl⟩ := hrel
    by_cases hlt : j < n
    · obtain ⟨ad, rfl, hc⟩ := h.at_ (k := j) (by simpa [marks3_len] using hlt)
      have hc' : w.cell? (ad.add j) = some (.bool ((k + (j : Int)) % 3 == 0)) := by rw [hc]; simp [marks3, mark3]
      clear hc
      have hne : (((k + (j : Int)) % 3 == 0) != ((k + (j : Int)) % 3 == 0)) = false := by simp
      go_wp2
      go_round
      case rel => exact ⟨j + 1, by omega, by go_num, by go_num⟩
      case measure => simp [intOf]; omega
    · go_wp2
      go_ret
      exact ⟨ret_i (by omega), rfl⟩
set_option maxHeartbeats 800000 in
theorem heldRegion_any (W T : Int) (A : Option Addr) (n c : Nat) (k : Int) (w : World) (h : Rd w A ((marks3 k n).map .bool)) (hn : n ≤ 1000000000000) (k0 : 0 ≤ k) (k1 : k ≤ 1000000000000) :
    Calls Try.prog 48 #[.agg #[.int .i64 W, .int .i64 T, .slice A n c], .int .i64 k] w fun e w' => e = .returned (.int .i64 (k + n)) ∧ Below w.heap.size w w' := by
  go_enter Try.func48, Try.ntmps48
  go_wp2_with fail
  refine (heldBoolS_any _ _ _ _ _ (h.belo (bl_alloc (Below.refl _ _) _)) hn k0 k1).mono ?_
  rintro e w1 ⟨rfl, rfl⟩
  go_wp2
  go_ret
  exact ⟨rfl, bl_alloc (Below.refl _ _) _⟩
end Go.Proofs.Ytbplnjigoghboaa

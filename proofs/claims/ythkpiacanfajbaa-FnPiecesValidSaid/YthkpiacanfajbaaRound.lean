/- Contracts: the way around a box. -/
import Derived.Test.YthkpiacanfajbaaApp
namespace Go.Proofs.Ythkpiacanfajbaa
open Go.RowKit

/-- the way around a box by columns and rows -/
def roundUp (f : Int → Int → Int) (k : Nat) : List Int := (List.range k).map fun y : Nat => f 0 (y : Int)
def roundX (wide m i : Nat) : Int := if m % 2 = 1 then (wide : Int) - (i : Int) else (i : Int)
def roundRow (wide tall : Nat) (f : Int → Int → Int) (m i : Nat) : List Int := (List.range i).map fun j => f (roundX wide m (j + 1)) ((tall : Int) - 1 - m)
def roundDown (wide tall : Nat) (f : Int → Int → Int) (m : Nat) : List Int := (List.range m).flatMap fun j => roundRow wide tall f j (wide - 1)
def roundN (wide tall : Nat) (f : Int → Int → Int) : List Int := roundUp f tall ++ roundDown wide tall f tall
theorem roundUp_succ (f : Int → Int → Int) (k : Nat) : roundUp f (k + 1) = roundUp f k ++ [f 0 k] := by simp [roundUp, List.range_succ]
theorem roundRow_succ (wide tall : Nat) (f : Int → Int → Int) (m i : Nat) : roundRow wide tall f m (i + 1) = roundRow wide tall f m i ++ [f (roundX wide m (i + 1)) ((tall : Int) - 1 - m)] := by simp [roundRow, List.range_succ]
theorem roundDown_succ (wide tall : Nat) (f : Int → Int → Int) (m : Nat) : roundDown wide tall f (m + 1) = roundDown wide tall f m ++ roundRow wide tall f m (wide - 1) := by simp [roundDown, List.range_succ]
theorem roundUp_len (f : Int → Int → Int) (k : Nat) : (roundUp f k).length = k := by simp [roundUp]
theorem roundRow_len (wide tall : Nat) (f : Int → Int → Int) (m i : Nat) : (roundRow wide tall f m i).length = i := by simp [roundRow]
theorem roundDown_len (wide tall : Nat) (f : Int → Int → Int) (m : Nat) : (roundDown wide tall f m).length = m * (wide - 1) := by
  induction m with
  | zero => simp [roundDown]
  | succ m ih => rw [roundDown_succ, List.length_append, ih, roundRow_len, Nat.succ_mul]
/-- what is there when m rows and j cells of the next one are done -/
def roundAcc (W T : Nat) (f : Int → Int → Int) (m j : Nat) : List Int := roundUp f T ++ roundDown W T f m ++ roundRow W T f m j
theorem roundAcc_up (W T : Nat) (f : Int → Int → Int) : roundAcc W T f 0 0 = roundUp f T := by simp [roundAcc, roundDown, roundRow]
theorem roundAcc_succ (W T : Nat) (f : Int → Int → Int) (m j : Nat) : roundAcc W T f m (j + 1) = roundAcc W T f m j ++ [f (roundX W m (j + 1)) ((T : Int) - 1 - m)] := by unfold roundAcc; rw [roundRow_succ, List.append_assoc]; simp
theorem roundAcc_next (W T : Nat) (f : Int → Int → Int) (m : Nat) : roundAcc W T f (m + 1) 0 = roundAcc W T f m (W - 1) := by unfold roundAcc; rw [roundDown_succ]; simp [roundRow]
theorem roundAcc_end (W T : Nat) (f : Int → Int → Int) : roundAcc W T f T 0 = roundN W T f := by unfold roundAcc roundN; simp [roundRow]
theorem roundAcc_len (W T : Nat) (f : Int → Int → Int) (m j : Nat) : (roundAcc W T f m j).length = T + m * (W - 1) + j := by
  unfold roundAcc; rw [List.length_append, List.length_append, roundUp_len, roundDown_len, roundRow_len]
def byRow (wide : Nat) (x y : Int) : Int := y * wide + x
def byCol (wide : Nat) (x y : Int) : Int := x * wide + y

theorem mul6 {a b : Int} (h1 : 0 ≤ a) (h2 : a ≤ 6) (h3 : 0 ≤ b) (h4 : b ≤ 6) : 0 ≤ a * b ∧ a * b ≤ 36 := by
  rcases (show a = 0 ∨ a = 1 ∨ a = 2 ∨ a = 3 ∨ a = 4 ∨ a = 5 ∨ a = 6 from by omega) with rfl | rfl | rfl | rfl | rfl | rfl | rfl <;> omega
theorem mul6n {a b : Nat} (h1 : a ≤ 6) (h2 : b ≤ 6) : a * b ≤ 36 := by
  rcases (show a = 0 ∨ a = 1 ∨ a = 2 ∨ a = 3 ∨ a = 4 ∨ a = 5 ∨ a = 6 from by omega) with rfl | rfl | rfl | rfl | rfl | rfl | rfl <;> omega

set_option maxHeartbeats 400000 in
theorem cl1_any (x y : Int) (wide : Nat) (b : Nat) (w : World) (x0 : 0 ≤ x) (hx : x ≤ 6) (y0 : 0 ≤ y) (hy : y ≤ 6) (hw : wide ≤ 6) (hc : w.cell? ⟨b, 0, none⟩ = some (.int .i64 wide)) :
    Calls Try.prog 54 #[.int .i64 x, .int .i64 y, .pointer (some ⟨b, 0, none⟩)] w fun e w' => e = .returned (.int .i64 (byRow wide x y)) ∧ w = w' := by
  obtain ⟨m1, m2⟩ := mul6 (b := (wide : Int)) y0 hy (by omega) (by omega)
  go_enter Try.func54, Try.ntmps54
  go_wp2
  go_ret
  exact ⟨rfl, rfl⟩

set_option maxHeartbeats 2000000 in
theorem round1_any (wide : Nat) (W T : Nat) (b : Nat) (w : World) (d2 : wide ≤ 6) (w1 : 2 ≤ W) (w2 : W ≤ 6) (t1 : 2 ≤ T) (t2 : T ≤ 6) (hc : w.cell? ⟨b, 0, none⟩ = some (.int .i64 wide)) :
    Calls Try.prog 53 #[.int .i64 W, .int .i64 T, .func (.func 54) #[] #[.pointer (some ⟨b, 0, none⟩)]] w (NewW (roundN W T (byRow wide)) w) := by
  have hb := World.block_lt_of_cell? w _ hc
  go_enter Try.func53, Try.ntmps53
  go_wp2_with fail
  go_loopw [7, 13] (fun v i wr => ∃ k : Nat, k ≤ T ∧ i = .int .i64 k ∧ OwnI wr w.heap.size v (roundUp (byRow wide) k) ∧ Below w.heap.size w wr) (fun _ i _ => T - (intOf i).toNat)
  case atStart => exact ⟨0, Nat.zero_le _, rfl, OwnI.nil _ _, Below.refl _ _⟩
  case round =>
    obtain ⟨k, hk, rfl, hown, hbel⟩ := hrel
    by_cases hlt : k < T
    · have HS := Lib.hid (roundUp_succ (byRow wide) k)
      have hcr := (hbel.cell (p := ⟨b, 0, none⟩) hb).trans hc
      have HL : (roundUp (byRow wide) k).length ≤ 6 := by rw [roundUp_len]; omega
      have hsz := hbel.size
      go_wp2_with (first
        | (go_at_call 54; refine (cl1_any 0 k wide b _ (by omega) (by omega) (by omega) (by omega) d2 hcr).mono ?_; rintro e w' ⟨rfl, rfl⟩)
        | (at_builtin; refine app_int _ rfl _ _ rfl w.heap.size _ _ rfl hown _ rfl (by omega) (by omega) ?_; intro A' c' w3 hown1 hg1))
      go_roundw
      case rel => exact ⟨k + 1, by omega, by go_num, by rw [HS.out]; exact hown1, app_below hbel (Nat.le_refl _) hsz hown hg1⟩
      case measure => simp [intOf]; omega
    · obtain rfl : k = T := by omega
      clear hlt hk
      obtain ⟨wo, hwo⟩ : ∃ wo : World, wo = wr := ⟨_, rfl⟩
      subst hwo
      go_wp2_with fail
      go_loopw [7, 9] (fun v i wr => ∃ m : Nat, m ≤ k ∧ i = .int .i64 ((k : Int) - 1 - m) ∧ OwnI wr w.heap.size v (roundAcc W k (byRow wide) m 0) ∧ Below w.heap.size w wr) (fun _ i _ => (intOf i + 1).toNat)
      case atStart => exact ⟨0, Nat.zero_le _, by go_num, by rw [roundAcc_up]; exact hown, hbel⟩
      case round =>
        clear hown hbel
        obtain ⟨m, hm, rfl, hown, hbel⟩ := hrel
        by_cases hlt : m < k
        · obtain ⟨wo, hwo⟩ : ∃ wo : World, wo = wr := ⟨_, rfl⟩
          subst hwo
          have hdec : decide ((m : Int) ≤ (k : Int) - 1) = true := by simp; omega
          go_wp2_with fail
          clear hdec
          go_loopw [7, 10] (fun v i wr => ∃ j : Nat, j ≤ W - 1 ∧ i = .int .i64 ((j : Int) + 1) ∧ OwnI wr w.heap.size v (roundAcc W k (byRow wide) m j) ∧ Below w.heap.size w wr) (fun _ i _ => W - (intOf i).toNat)
          case atStart => exact ⟨0, Nat.zero_le _, by go_num, hown, hbel⟩
          case round =>
            clear hown hbel
            obtain ⟨j, hj, rfl, hown, hbel⟩ := hrel
            by_cases hlj : j < W - 1
            · have HS := Lib.hid (roundAcc_succ W k (byRow wide) m j)
              have hcr := (hbel.cell (p := ⟨b, 0, none⟩) hb).trans hc
              have HL : (roundAcc W k (byRow wide) m j).length ≤ 100 := by
                rw [roundAcc_len]
                have := mul6n (a := m) (b := W - 1) (by omega) (by omega)
                omega
              have hsz := hbel.size
              by_cases hp : m % 2 = 1
              · have HX := Lib.hid (show roundX W m (j + 1) = (W : Int) - ((j : Int) + 1) by unfold roundX; rw [if_pos hp]; omega)
                go_wp2_with (first
                  | (go_at_call 54; refine (cl1_any _ _ wide b _ (by omega) (by omega) (by omega) (by omega) d2 hcr).mono ?_; rintro e w' ⟨rfl, rfl⟩)
                  | (at_builtin; refine app_int _ rfl _ _ rfl w.heap.size _ _ rfl hown _ rfl (by omega) (by omega) ?_; intro A' c' w3 hown1 hg1))
                go_roundw
                case rel => exact ⟨j + 1, by omega, by go_num, by rw [HS.out, HX.out]; exact hown1, app_below hbel (Nat.le_refl _) hsz hown hg1⟩
                case measure => simp [intOf]; omega
              · have HX := Lib.hid (show roundX W m (j + 1) = (j : Int) + 1 by unfold roundX; rw [if_neg hp]; omega)
                go_wp2_with (first
                  | (go_at_call 54; refine (cl1_any _ _ wide b _ (by omega) (by omega) (by omega) (by omega) d2 hcr).mono ?_; rintro e w' ⟨rfl, rfl⟩)
                  | (at_builtin; refine app_int _ rfl _ _ rfl w.heap.size _ _ rfl hown _ rfl (by omega) (by omega) ?_; intro A' c' w3 hown1 hg1))
                go_roundw
                case rel => exact ⟨j + 1, by omega, by go_num, by rw [HS.out, HX.out]; exact hown1, app_below hbel (Nat.le_refl _) hsz hown hg1⟩
                case measure => simp [intOf]; omega
            · obtain rfl : j = W - 1 := by omega
              go_wp2_with fail
              go_roundw
              case rel => exact ⟨m + 1, by omega, by go_num, by rw [roundAcc_next]; exact hown, hbel⟩
              case measure => simp [intOf]; omega
        · obtain rfl : m = k := by omega
          rw [roundAcc_end] at hown
          obtain ⟨A, c, rfl, hw⟩ := id hown
          go_wp2_with (go_at_call 96; refine (clip_any _ _ _ _ hown).mono ?_; rintro e w' ⟨rfl, rfl⟩)
          go_ret
          exact ⟨_, rfl, Wr.of_own hw, hbel⟩

set_option maxHeartbeats 400000 in
theorem cl2_any (x y : Int) (wide : Nat) (b : Nat) (w : World) (x0 : 0 ≤ x) (hx : x ≤ 6) (y0 : 0 ≤ y) (hy : y ≤ 6) (hw : wide ≤ 6) (hc : w.cell? ⟨b, 0, none⟩ = some (.int .i64 wide)) :
    Calls Try.prog 55 #[.int .i64 x, .int .i64 y, .pointer (some ⟨b, 0, none⟩)] w fun e w' => e = .returned (.int .i64 (byCol wide x y)) ∧ w = w' := by
  obtain ⟨m1, m2⟩ := mul6 (b := (wide : Int)) x0 hx (by omega) (by omega)
  go_enter Try.func55, Try.ntmps55
  go_wp2
  go_ret
  exact ⟨rfl, rfl⟩

set_option maxHeartbeats 2000000 in
theorem round2_any (wide : Nat) (W T : Nat) (b : Nat) (w : World) (d2 : wide ≤ 6) (w1 : 2 ≤ W) (w2 : W ≤ 6) (t1 : 2 ≤ T) (t2 : T ≤ 6) (hc : w.cell? ⟨b, 0, none⟩ = some (.int .i64 wide)) :
    Calls Try.prog 53 #[.int .i64 W, .int .i64 T, .func (.func 55) #[] #[.pointer (some ⟨b, 0, none⟩)]] w (NewW (roundN W T (byCol wide)) w) := by
  have hb := World.block_lt_of_cell? w _ hc
  go_enter Try.func53, Try.ntmps53
  go_wp2_with fail
  go_loopw [7, 13] (fun v i wr => ∃ k : Nat, k ≤ T ∧ i = .int .i64 k ∧ OwnI wr w.heap.size v (roundUp (byCol wide) k) ∧ Below w.heap.size w wr) (fun _ i _ => T - (intOf i).toNat)
  case atStart => exact ⟨0, Nat.zero_le _, rfl, OwnI.nil _ _, Below.refl _ _⟩
  case round =>
    obtain ⟨k, hk, rfl, hown, hbel⟩ := hrel
    by_cases hlt : k < T
    · have HS := Lib.hid (roundUp_succ (byCol wide) k)
      have hcr := (hbel.cell (p := ⟨b, 0, none⟩) hb).trans hc
      have HL : (roundUp (byCol wide) k).length ≤ 6 := by rw [roundUp_len]; omega
      have hsz := hbel.size
      go_wp2_with (first
        | (go_at_call 55; refine (cl2_any 0 k wide b _ (by omega) (by omega) (by omega) (by omega) d2 hcr).mono ?_; rintro e w' ⟨rfl, rfl⟩)
        | (at_builtin; refine app_int _ rfl _ _ rfl w.heap.size _ _ rfl hown _ rfl (by omega) (by omega) ?_; intro A' c' w3 hown1 hg1))
      go_roundw
      case rel => exact ⟨k + 1, by omega, by go_num, by rw [HS.out]; exact hown1, app_below hbel (Nat.le_refl _) hsz hown hg1⟩
      case measure => simp [intOf]; omega
    · obtain rfl : k = T := by omega
      clear hlt hk
      obtain ⟨wo, hwo⟩ : ∃ wo : World, wo = wr := ⟨_, rfl⟩
      subst hwo
      go_wp2_with fail
      go_loopw [7, 9] (fun v i wr => ∃ m : Nat, m ≤ k ∧ i = .int .i64 ((k : Int) - 1 - m) ∧ OwnI wr w.heap.size v (roundAcc W k (byCol wide) m 0) ∧ Below w.heap.size w wr) (fun _ i _ => (intOf i + 1).toNat)
      case atStart => exact ⟨0, Nat.zero_le _, by go_num, by rw [roundAcc_up]; exact hown, hbel⟩
      case round =>
        clear hown hbel
        obtain ⟨m, hm, rfl, hown, hbel⟩ := hrel
        by_cases hlt : m < k
        · obtain ⟨wo, hwo⟩ : ∃ wo : World, wo = wr := ⟨_, rfl⟩
          subst hwo
          have hdec : decide ((m : Int) ≤ (k : Int) - 1) = true := by simp; omega
          go_wp2_with fail
          clear hdec
          go_loopw [7, 10] (fun v i wr => ∃ j : Nat, j ≤ W - 1 ∧ i = .int .i64 ((j : Int) + 1) ∧ OwnI wr w.heap.size v (roundAcc W k (byCol wide) m j) ∧ Below w.heap.size w wr) (fun _ i _ => W - (intOf i).toNat)
          case atStart => exact ⟨0, Nat.zero_le _, by go_num, hown, hbel⟩
          case round =>
            clear hown hbel
            obtain ⟨j, hj, rfl, hown, hbel⟩ := hrel
            by_cases hlj : j < W - 1
            · have HS := Lib.hid (roundAcc_succ W k (byCol wide) m j)
              have hcr := (hbel.cell (p := ⟨b, 0, none⟩) hb).trans hc
              have HL : (roundAcc W k (byCol wide) m j).length ≤ 100 := by
                rw [roundAcc_len]
                have := mul6n (a := m) (b := W - 1) (by omega) (by omega)
                omega
              have hsz := hbel.size
              by_cases hp : m % 2 = 1
              · have HX := Lib.hid (show roundX W m (j + 1) = (W : Int) - ((j : Int) + 1) by unfold roundX; rw [if_pos hp]; omega)
                go_wp2_with (first
                  | (go_at_call 55; refine (cl2_any _ _ wide b _ (by omega) (by omega) (by omega) (by omega) d2 hcr).mono ?_; rintro e w' ⟨rfl, rfl⟩)
                  | (at_builtin; refine app_int _ rfl _ _ rfl w.heap.size _ _ rfl hown _ rfl (by omega) (by omega) ?_; intro A' c' w3 hown1 hg1))
                go_roundw
                case rel => exact ⟨j + 1, by omega, by go_num, by rw [HS.out, HX.out]; exact hown1, app_below hbel (Nat.le_refl _) hsz hown hg1⟩
                case measure => simp [intOf]; omega
              · have HX := Lib.hid (show roundX W m (j + 1) = (j : Int) + 1 by unfold roundX; rw [if_neg hp]; omega)
                go_wp2_with (first
                  | (go_at_call 55; refine (cl2_any _ _ wide b _ (by omega) (by omega) (by omega) (by omega) d2 hcr).mono ?_; rintro e w' ⟨rfl, rfl⟩)
                  | (at_builtin; refine app_int _ rfl _ _ rfl w.heap.size _ _ rfl hown _ rfl (by omega) (by omega) ?_; intro A' c' w3 hown1 hg1))
                go_roundw
                case rel => exact ⟨j + 1, by omega, by go_num, by rw [HS.out, HX.out]; exact hown1, app_below hbel (Nat.le_refl _) hsz hown hg1⟩
                case measure => simp [intOf]; omega
            · obtain rfl : j = W - 1 := by omega
              go_wp2_with fail
              go_roundw
              case rel => exact ⟨m + 1, by omega, by go_num, by rw [roundAcc_next]; exact hown, hbel⟩
              case measure => simp [intOf]; omega
        · obtain rfl : m = k := by omega
          rw [roundAcc_end] at hown
          obtain ⟨A, c, rfl, hw⟩ := id hown
          go_wp2_with (go_at_call 96; refine (clip_any _ _ _ _ hown).mono ?_; rintro e w' ⟨rfl, rfl⟩)
          go_ret
          exact ⟨_, rfl, Wr.of_own hw, hbel⟩

end Go.Proofs.Ythkpiacanfajbaa

/- Contracts: RoundOf, the program's and the reference's. -/
import Derived.Test.YthkpiacanfajbaaRound
import Derived.Test.YthkpiacanfajbaaColour
import Derived.Deep.RegionHeld3
import Derived.StillTailTactics
namespace Go.Proofs.Ythkpiacanfajbaa
open Go.RowKit

/-- the sides of a box that has a way around it -/
def roundOk (W T : Int) : Bool := decide ((2 ≤ W ∧ W ≤ 6) ∧ (2 ≤ T ∧ T ≤ 6) ∧ W * T ≤ 24 ∧ (T % 2 = 0 ∨ W % 2 = 0))
def roundL (W T : Nat) : List Int := if T % 2 = 0 then roundN W T (byRow W) else roundN T W (byCol W)
def roundOf (W T : Int) : List Int := if roundOk W T = true then roundL W.toNat T.toNat else []
theorem roundOf_ok {W T : Nat} (h1 : 2 ≤ W ∧ W ≤ 6) (h2 : 2 ≤ T ∧ T ≤ 6) (h3 : (W : Int) * T ≤ 24) (h4 : T % 2 = 0 ∨ W % 2 = 0) : roundOf W T = roundL W T := by
  unfold roundOf
  rw [if_pos (by unfold roundOk; simp; omega)]
  simp
theorem roundOf_no {W T : Int} (h : ¬ ((2 ≤ W ∧ W ≤ 6) ∧ (2 ≤ T ∧ T ≤ 6) ∧ W * T ≤ 24 ∧ (T % 2 = 0 ∨ W % 2 = 0))) : roundOf W T = [] := by
  unfold roundOf
  rw [if_neg (by unfold roundOk; simpa using h)]

/-- .. and it is nil if there is none -/
def NewWn (xs : List Int) (w : World) (e : Ending) (w' : World) : Prop :=
  ∃ A : Option Addr, e = .returned (.slice A xs.length xs.length) ∧ Wr w' w.heap.size 3 A (xs.map (.int .i64)) ∧ Below w.heap.size w w' ∧ (xs = [] → A = none)
theorem roundN_ne {W T : Nat} {f : Int → Int → Int} (h : 1 ≤ T) : roundN W T f ≠ [] := by
  intro e
  have := congrArg List.length e
  rw [← roundAcc_end, roundAcc_len] at this
  simp at this; omega
set_option maxHeartbeats 2000000 in
theorem iRoundOf_nil (W T : Int) (w : World) : Calls Try.prog 12 #[.int .i64 W, .int .i64 T] w (NewWn (roundOf W T) w) := by
  by_cases h1 : 2 ≤ W ∧ W ≤ 6
  · obtain ⟨a1, a2⟩ := h1
    by_cases h2 : 2 ≤ T ∧ T ≤ 6
    · obtain ⟨b1, b2⟩ := h2
      obtain ⟨m1, m2⟩ := mul6 (a := W) (b := T) (by omega) a2 (by omega) b2
      by_cases h3 : W * T ≤ 24
      · obtain ⟨Wn, rfl⟩ := Int.eq_ofNat_of_zero_le (show 0 ≤ W by omega)
        obtain ⟨Tn, rfl⟩ := Int.eq_ofNat_of_zero_le (show 0 ≤ T by omega)
        by_cases h4 : Tn % 2 = 0
        · have HR := Lib.hid (roundOf_ok (W := Wn) (T := Tn) (by omega) (by omega) h3 (.inl h4))
          have HL := Lib.hid (show roundL Wn Tn = roundN Wn Tn (byRow Wn) by unfold roundL; rw [if_pos h4])
          go_enter Try.func12, Try.ntmps12
          go_wp2_with (first | (go_at_call 52; refine (in_t _ _ _ _ (by omega) (by omega)).mono ?_; rintro e w' ⟨rfl, rfl⟩))
          refine (round1_any Wn Wn Tn w.heap.size _ (by omega) (by omega) (by omega) (by omega) (by omega) (by simp)).mono ?_
          rintro e w1 ⟨A, rfl, hw, hb⟩
          go_wp2
          go_ret
          rw [HR.out, HL.out]
          exact ⟨_, rfl, hw.lower (by simp), bl_go (bl_alloc (Below.refl _ _) _) hb, fun h => absurd h (roundN_ne (by omega))⟩
        · by_cases h5 : Wn % 2 = 0
          · have HR := Lib.hid (roundOf_ok (W := Wn) (T := Tn) (by omega) (by omega) h3 (.inr h5))
            have HL := Lib.hid (show roundL Wn Tn = roundN Tn Wn (byCol Wn) by unfold roundL; rw [if_neg h4])
            go_enter Try.func12, Try.ntmps12
            go_wp2_with (first | (go_at_call 52; refine (in_t _ _ _ _ (by omega) (by omega)).mono ?_; rintro e w' ⟨rfl, rfl⟩))
            refine (round2_any Wn Tn Wn w.heap.size _ (by omega) (by omega) (by omega) (by omega) (by omega) (by simp)).mono ?_
            rintro e w1 ⟨A, rfl, hw, hb⟩
            go_wp2
            go_ret
            rw [HR.out, HL.out]
            exact ⟨_, rfl, hw.lower (by simp), bl_go (bl_alloc (Below.refl _ _) _) hb, fun h => absurd h (roundN_ne (by omega))⟩
          · have HR := Lib.hid (roundOf_no (W := Wn) (T := Tn) (by omega))
            go_enter Try.func12, Try.ntmps12
            go_wp2_with (first | (go_at_call 52; refine (in_t _ _ _ _ (by omega) (by omega)).mono ?_; rintro e w' ⟨rfl, rfl⟩))
            go_ret
            rw [HR.out]
            exact ⟨none, rfl, Wr.none_ _ _ _, bl_alloc (Below.refl _ _) _, fun _ => rfl⟩
      · have HR := Lib.hid (roundOf_no (W := W) (T := T) (fun h => h3 h.2.2.1))
        go_enter Try.func12, Try.ntmps12
        go_wp2_with (first | (go_at_call 52; refine (in_t _ _ _ _ (by omega) (by omega)).mono ?_; rintro e w' ⟨rfl, rfl⟩))
        go_ret
        rw [HR.out]
        exact ⟨none, rfl, Wr.none_ _ _ _, bl_alloc (Below.refl _ _) _, fun _ => rfl⟩
    · have HR := Lib.hid (roundOf_no (W := W) (T := T) (fun h => h2 h.2.1))
      have h2' : T < 2 ∨ 6 < T := by omega
      clear h2
      go_enter Try.func12, Try.ntmps12
      go_wp2_with (first | (go_at_call 52; refine (in_t _ _ _ _ (by omega) (by omega)).mono ?_; rintro e w' ⟨rfl, rfl⟩) | (go_at_call 52; refine (in_f _ _ _ _ (by omega)).mono ?_; rintro e w' ⟨rfl, rfl⟩))
      go_ret
      rw [HR.out]
      exact ⟨none, rfl, Wr.none_ _ _ _, bl_alloc (Below.refl _ _) _, fun _ => rfl⟩
  · have HR := Lib.hid (roundOf_no (W := W) (T := T) (fun h => h1 h.1))
    have h1' : W < 2 ∨ 6 < W := by omega
    clear h1
    go_enter Try.func12, Try.ntmps12
    go_wp2_with (first | (go_at_call 52; refine (in_f _ _ _ _ (by omega)).mono ?_; rintro e w' ⟨rfl, rfl⟩))
    go_ret
    rw [HR.out]
    exact ⟨none, rfl, Wr.none_ _ _ _, bl_alloc (Below.refl _ _) _, fun _ => rfl⟩

theorem iRoundOf_any (W T : Int) (w : World) : Calls Try.prog 12 #[.int .i64 W, .int .i64 T] w (NewW (roundOf W T) w) :=
  (iRoundOf_nil W T w).mono fun _ _ ⟨A, h1, h2, h3, _⟩ => ⟨A, h1, h2, h3⟩

theorem byRow0 (W : Nat) (y : Int) : byRow W 0 y = y * W := by unfold byRow; omega

set_option maxHeartbeats 2000000 in
/-- the reference, the number of rows even -/
theorem sRoundOf_even (W T : Nat) (w : World) (a1 : 2 ≤ W) (a2 : W ≤ 6) (b1 : 2 ≤ T) (b2 : T ≤ 6) (h3 : (W : Int) * T ≤ 24) (h4 : T % 2 = 0) :
    Calls Try.prog 14 #[.int .i64 W, .int .i64 T] w (NewRd (roundN W T (byRow W)) w) := by
  obtain ⟨m1, m2⟩ := mul6 (a := (W : Int)) (b := (T : Int)) (by omega) (by omega) (by omega) (by omega)
  have hpar : ((W : Int) * T % 2 == 1) = false := by
    have : (W : Int) * T = (W : Int) * (T / 2 : Int) * 2 := by
      rw [Int.mul_assoc, Int.ediv_mul_cancel (by omega)]
    rw [this]; simp
  have hodd : ((T : Int) % 2 == 1) = false := by simp; omega
  go_enter Try.func14, Try.ntmps14
  go_wp2_with (first | (go_at_call 56; refine (l1in_t _ _ _ _ (by omega) (by omega)).mono ?_; rintro e w' ⟨rfl, rfl⟩))
  go_loopw [5, 8] (fun v i wr => ∃ k : Nat, k ≤ T ∧ i = .int .i64 k ∧ OwnI wr w.heap.size v (roundUp (byRow W) k) ∧ Below w.heap.size w wr) (fun _ i _ => T - (intOf i).toNat)
  case atStart => exact ⟨0, Nat.zero_le _, rfl, OwnI.empty w, bl_alloc (Below.refl _ _) _⟩
  case round =>
    obtain ⟨k, hk, rfl, hown, hbel⟩ := hrel
    by_cases hlt : k < T
    · have HS := Lib.hid ((roundUp_succ (byRow W) k).trans (by rw [byRow0]))
      have HL : (roundUp (byRow W) k).length ≤ 6 := by rw [roundUp_len]; omega
      obtain ⟨n1, n2⟩ := mul6 (a := (k : Int)) (b := (W : Int)) (by omega) (by omega) (by omega) (by omega)
      have hsz := hbel.size
      go_wp2_with (at_builtin; refine app_int _ rfl _ _ rfl w.heap.size _ _ rfl hown _ rfl (by omega) (by omega) ?_; intro A' c' w3 hown1 hg1)
      go_roundw
      case rel => exact ⟨k + 1, by omega, by go_num, by rw [HS.out]; exact hown1, app_below hbel (Nat.le_refl _) hsz hown hg1⟩
      case measure => simp [intOf]; omega
    · obtain rfl : k = T := by omega
      clear hlt hk
      obtain ⟨wo, hwo⟩ : ∃ wo : World, wo = wr := ⟨_, rfl⟩
      subst hwo
      go_wp2_with fail
      go_loopw [5, 9] (fun v i wr => ∃ m : Nat, m ≤ k ∧ i = .int .i64 ((k : Int) - 1 - m) ∧ OwnI wr w.heap.size v (roundAcc W k (byRow W) m 0) ∧ Below w.heap.size w wr) (fun _ i _ => (intOf i + 1).toNat)
      case atStart => exact ⟨0, Nat.zero_le _, by go_num, by rw [roundAcc_up]; exact hown, hbel⟩
      case round =>
        clear hown hbel
        obtain ⟨m, hm, rfl, hown, hbel⟩ := hrel
        by_cases hlt : m < k
        · obtain ⟨wo, hwo⟩ : ∃ wo : World, wo = wr := ⟨_, rfl⟩
          subst hwo
          obtain ⟨n1, n2⟩ := mul6 (a := (k : Int) - 1 - m) (b := (W : Int)) (by omega) (by omega) (by omega) (by omega)
          have hdec : decide ((m : Int) ≤ (k : Int) - 1) = true := by simp; omega
          go_wp2_with fail
          clear hdec
          go_loopw [5, 10] (fun v i wr => ∃ j : Nat, j ≤ W - 1 ∧ i = .int .i64 ((j : Int) + 1) ∧ OwnI wr w.heap.size v (roundAcc W k (byRow W) m j) ∧ Below w.heap.size w wr) (fun _ i _ => W - (intOf i).toNat)
          case atStart => exact ⟨0, Nat.zero_le _, by go_num, hown, hbel⟩
          case round =>
            clear hown hbel
            obtain ⟨j, hj, rfl, hown, hbel⟩ := hrel
            by_cases hlj : j < W - 1
            · have HS := Lib.hid (roundAcc_succ W k (byRow W) m j)
              have HL : (roundAcc W k (byRow W) m j).length ≤ 100 := by
                rw [roundAcc_len]
                have := mul6n (a := m) (b := W - 1) (by omega) (by omega)
                omega
              have hsz := hbel.size
              by_cases hp : m % 2 = 1
              · have HX := Lib.hid (show roundX W m (j + 1) = (W : Int) - ((j : Int) + 1) by unfold roundX; rw [if_pos hp]; omega)
                go_wp2_with (at_builtin; refine app_int _ rfl _ _ rfl w.heap.size _ _ rfl hown _ rfl (by omega) (by omega) ?_; intro A' c' w3 hown1 hg1)
                go_roundw
                case rel => exact ⟨j + 1, by omega, by go_num, by rw [HS.out, HX.out]; exact hown1, app_below hbel (Nat.le_refl _) hsz hown hg1⟩
                case measure => simp [intOf]; omega
              · have HX := Lib.hid (show roundX W m (j + 1) = (j : Int) + 1 by unfold roundX; rw [if_neg hp]; omega)
                go_wp2_with (at_builtin; refine app_int _ rfl _ _ rfl w.heap.size _ _ rfl hown _ rfl (by omega) (by omega) ?_; intro A' c' w3 hown1 hg1)
                go_roundw
                case rel => exact ⟨j + 1, by omega, by go_num, by rw [HS.out, HX.out]; exact hown1, app_below hbel (Nat.le_refl _) hsz hown hg1⟩
                case measure => simp [intOf]; omega
            · obtain rfl : j = W - 1 := by omega
              go_wp2_with fail
              go_roundw
              case rel => exact ⟨m + 1, by omega, by go_num, by rw [roundAcc_next]; exact hown, hbel⟩
              case measure => simp [intOf]; omega
        · obtain rfl : m = k := by omega
          rw [roundAcc_end] at hown
          go_wp2
          go_ret
          exact hown.newRd hbel (Nat.le_refl _)

theorem round_bd : ∀ W, W ≤ 6 → ∀ T, T ≤ 6 → (roundN W T (byRow W)).all (fun o => decide (0 ≤ o ∧ o ≤ 36)) = true := by decide +kernel
theorem round_map : ∀ W, W ≤ 6 → 2 ≤ W → ∀ T, T ≤ 6 → 2 ≤ T → (roundN T W (byRow T)).map (fun o => o % (T : Int) * (W : Int) + o / (T : Int)) = roundN T W (byCol W) := by decide +kernel
theorem map_step {α β : Type} (f : α → β) (l : List α) (k : Nat) (h : k < l.length) : (l.take (k + 1)).map f = (l.take k).map f ++ [f l[k]] := by
  rw [take_one_more l k h, List.map_append]; rfl

set_option maxRecDepth 100000 in
set_option maxHeartbeats 2000000 in
/-- the reference, the number of rows odd, the number of columns even -/
theorem sRoundOf_odd (W T : Nat) (w : World) (a1 : 2 ≤ W) (a2 : W ≤ 6) (b1 : 2 ≤ T) (b2 : T ≤ 6) (h3 : (W : Int) * T ≤ 24) (h4 : T % 2 = 1) (h5 : W % 2 = 0) :
    Calls Try.prog 14 #[.int .i64 W, .int .i64 T] w (NewRd (roundN T W (byCol W)) w) := by
  obtain ⟨m1, m2⟩ := mul6 (a := (W : Int)) (b := (T : Int)) (by omega) (by omega) (by omega) (by omega)
  have hpar : ((W : Int) * T % 2 == 1) = false := by
    have : (W : Int) * T = (T : Int) * (W / 2 : Int) * 2 := by
      rw [Int.mul_assoc, Int.ediv_mul_cancel (by omega), Int.mul_comm]
    rw [this]; simp
  have hodd : ((T : Int) % 2 == 1) = true := by simp; omega
  have hMAP := Lib.hid (round_map W a2 a1 T b2 b1)
  have hBD := Lib.hid (round_bd T b2 W a2)
  have hdg : decide (24 < (W : Int) * T) = false := by simp; omega
  go_enter Try.func14, Try.ntmps14
  go_wp2_with (first | (go_at_call 56; refine (l1in_t _ _ _ _ (by omega) (by omega)).mono ?_; rintro e w' ⟨rfl, rfl⟩) | (go_at_call 14; refine (sRoundOf_even T W _ b1 b2 a1 a2 (by rw [Int.mul_comm]; exact h3) h5).mono ?_; rintro e w1 ⟨A, c, rfl, hr, hb, hfresh⟩))
  clear hpar hodd h4 h5
  generalize hX : roundN T W (byRow T) = X at *
  have HX := Lib.hid hX
  clear hX
  have hXl : X.length ≤ 100 := by
    rw [← HX.out, ← roundAcc_end, roundAcc_len]
    have := mul6n (a := W) (b := T - 1) (by omega) (by omega)
    omega
  go_loopw [5, 7] (fun v i wr => ∃ k : Nat, k ≤ X.length ∧ i = .int .i64 k ∧ OwnI wr w.heap.size v ((X.take k).map (fun o => o % (T : Int) * (W : Int) + o / (T : Int))) ∧ Below w.heap.size w wr ∧ Rd wr A (X.map (.int .i64)) ∧ (∀ ad, A = some ad → v.ownBlock ≠ some ad.block)) (fun _ i _ => X.length - (intOf i).toNat)
  case atStart => exact ⟨0, Nat.zero_le _, rfl, (OwnI.empty w).belo hb, bl_go (bl_alloc (Below.refl _ _) _) hb, hr, fun ad ha => by have := hfresh ad ha; simp [Value.ownBlock] at this ⊢; omega⟩
  case round =>
    clear hr hb hfresh
    obtain ⟨k, hk, rfl, hown, hbel, hr, hne⟩ := hrel
    by_cases hlt : k < X.length
    · obtain ⟨ad, rfl, hc⟩ := hr.atM hlt
      have HS := Lib.hid (map_step (fun o : Int => o % (T : Int) * (W : Int) + o / (T : Int)) X k hlt)
      have hob : 0 ≤ X[k] ∧ X[k] ≤ 36 := by
        have := List.all_eq_true.1 hBD.out X[k] (List.getElem_mem hlt)
        simpa using this
      obtain ⟨o, ho⟩ : ∃ o, X[k] = o := ⟨_, rfl⟩
      rw [ho] at hc hob
      have HO := Lib.hid ho
      clear ho
      obtain ⟨o1, o2⟩ := hob
      obtain ⟨q1, q2, q3, q4⟩ := xy_bd (W := (T : Int)) (c := o) (by omega) (by omega) o1 o2
      obtain ⟨n1, n2⟩ := mul6 (a := o % (T : Int)) (b := (W : Int)) q1 (by omega) (by omega) (by omega)
      have HL : ((X.take k).map (fun o => o % (T : Int) * (W : Int) + o / (T : Int))).length ≤ 100 := by rw [List.length_map, List.length_take]; omega
      have hkl : (k : Int) < (X.length : Int) := by omega
      have hsz := hbel.size
      have hne1 := hne ad rfl
      have HLEN := Lib.hid (show ((X.take k).map (fun o => o % (T : Int) * (W : Int) + o / (T : Int))).length = k by rw [List.length_map, List.length_take]; omega)
      have hlt2 := Rd.lt hr rfl (by intro e; simp at e; subst e; simp at hlt)
      have e1 : o.tmod (T : Int) = o % (T : Int) := Int.tmod_eq_emod_of_nonneg o1
      have e2 : o.tdiv (T : Int) = o / (T : Int) := Int.tdiv_eq_ediv_of_nonneg o1
      have e3 : IntKind.i64.wrap (o % (T : Int) * (W : Int)) = o % (T : Int) * (W : Int) := IntWalk.i64_in _ (by omega)
      have e4 : IntKind.i64.wrap (o / (T : Int)) = o / (T : Int) := IntWalk.i64_in _ (by omega)
      have e5 : IntKind.i64.wrap (o % (T : Int) * (W : Int) + o / (T : Int)) = o % (T : Int) * (W : Int) + o / (T : Int) := IntWalk.i64_in _ (by omega)
      have t1 : (1 : Int) ≤ (T : Int) := by omega
      have t2 : ¬ (T = 0) := by omega
      go_wp2_with fail
      go_region_held3 (fun w' => w'.cell? (ad.add k) = some (.int .i64 o)) (first | exact hc3 | exact hc | go_keep)
        ((refine step_app_int _ (by rfl) _ _ (by rfl) w.heap.size _ _ (by rfl) ((hown.alloc _).drew) (o % (T : Int) * (W : Int) + o / (T : Int)) wr.heap.size (by rfl) (by simp) (by omega) (by simp; omega) ?_; intro g c' w3 hown1 hg1 hat; rw [HLEN.out] at hown1; have R3 := (hr.alloc _).drew.grownBelow hg1 (fun _ ad' ha e => hne1 (by rw [Option.some.inj ha]; exact e.symm)); have hc3 : w3.cell? (ad.add k) = some (.int .i64 o) := (by obtain ⟨ad2, h2, h3⟩ := R3.atM hlt; rw [HO.out, ← Option.some.inj h2] at h3; exact h3)))
      clear e1 e2 e3 e4 e5
      go_wp2
      have hgne : g ≠ ad.block := by
        rcases hat with h | h
        · intro e; exact hne1 (by rw [h, e])
        · simp at h; omega
      refine ⟨⟨k + 1, by omega, by go_num, ?_, grown_below ((hbel.alloc hsz _).drew) (Nat.le_refl _) (by simp; omega) ((hown.alloc _).drew) hg1, R3, ?_⟩, by simp [intOf]; omega⟩
      · rw [HS.out, HO.out]; exact hown1
      · intro ad' ha e
        rw [← Option.some.inj ha] at e
        exact hgne (by simpa [Value.ownBlock] using e)
    · obtain rfl : k = X.length := by omega
      rw [List.take_length] at hown
      rw [hMAP.out] at hown
      go_wp2
      go_ret
      exact hown.newRd hbel (Nat.le_refl _)
end Go.Proofs.Ythkpiacanfajbaa

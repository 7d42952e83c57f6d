/- The walk of the law FnPairOf. -/
import Derived.Test.YtealmphaoolglaaDrawPairOf
import Derived.Test.YtealmphaoolglaaAlive
import Derived.Test.YtealmphaoolglaaPair
namespace Go.Proofs.Ytealmphaoolglaa
open Go.RowKit
set_option maxHeartbeats 2000000 in
theorem fnPairOf_walk {w0 : World} (A : Option Addr) (c : Nat) (bs : List Int) (hcap : bs.length ≤ c) (hm : bs.length ≤ maxLen) (hr : Rd w0 A (bs.map (.int .u8))) (hw : ∀ n ∈ bs, 0 ≤ n ∧ n ≤ 255) :
    Calls Try.prog 4 #[.slice A bs.length c] w0 fun e w' => e = .returned (.bool true) ∧ Below w0.heap.size w0 w' := by
  have HW := Lib.hid hw
  clear hw
  unfold maxLen at hm
  by_cases hn : bs.length ≤ 1048576
  · have hg : decide ((1048576 : Int) < (bs.length : Int)) = false := by simp; omega
    go_enter Try.func4, Try.ntmps4
    go_wp2_with fail
    refine (drawPairOf_any A c bs _ hr HW.out hn hcap).mono ?_
    rintro e w1 ⟨a, b, rfl, -, B1⟩
    clear hg
    by_cases hin : 0 ≤ a ∧ a ≤ 6 ∧ 0 ≤ b ∧ b ≤ 6
    · obtain ⟨a0, a1, b0, b1⟩ := hin
      have HP := Lib.hid (show pairOf a b = pairN a b by unfold pairOf; rw [if_pos ⟨a0, a1, b0, b1⟩])
      have HP' := Lib.hid (show pairOf b a = pairN a b by
        unfold pairOf; rw [if_pos ⟨b0, b1, a0, a1⟩]; unfold pairN
        by_cases h : a ≤ b
        · by_cases h2 : b ≤ a
          · have : a = b := by omega
            subst this; rfl
          · rw [if_neg h2, if_pos h]
        · rw [if_pos (by omega), if_neg h])
      have hge : 0 ≤ pairN a b ∧ pairN a b ≤ 48 := by unfold pairN; split <;> omega
      obtain ⟨g0, g1⟩ := hge
      have hne : (pairN a b != pairN a b) = false := by simp
      have hee : (pairN a b == pairN a b) = true := by simp
      rcases (show a < b ∨ b < a ∨ a = b from by omega) with h | h | h
      · have hq : (pairN a b / 7 == a) = true := by unfold pairN; rw [beq_iff_eq]; split <;> omega
        have hr2 : (pairN a b % 7 == b) = true := by unfold pairN; rw [beq_iff_eq]; split <;> omega
        generalize pairN a b = P at *
        go_wp2_with fail
        refine (ipairOf_any a b _).mono ?_
        rintro e w' ⟨rfl, rfl⟩
        rw [HP.out]
        go_wp2_with fail
        refine (spairOf_any a b _).mono ?_
        rintro e w' ⟨rfl, rfl⟩
        rw [HP.out]
        go_wp2_with fail
        refine (ipairOf_any b a _).mono ?_
        rintro e w' ⟨rfl, rfl⟩
        rw [HP'.out]
        go_wp2
        go_ret
        exact ⟨rfl, B1⟩
      · have hq : (pairN a b / 7 == b) = true := by unfold pairN; rw [beq_iff_eq]; split <;> omega
        have hr2 : (pairN a b % 7 == a) = true := by unfold pairN; rw [beq_iff_eq]; split <;> omega
        generalize pairN a b = P at *
        go_wp2_with fail
        refine (ipairOf_any a b _).mono ?_
        rintro e w' ⟨rfl, rfl⟩
        rw [HP.out]
        go_wp2_with fail
        refine (spairOf_any a b _).mono ?_
        rintro e w' ⟨rfl, rfl⟩
        rw [HP.out]
        go_wp2_with fail
        refine (ipairOf_any b a _).mono ?_
        rintro e w' ⟨rfl, rfl⟩
        rw [HP'.out]
        go_wp2
        go_ret
        exact ⟨rfl, B1⟩
      · subst h
        have hq : (pairN a a / 7 == a) = true := by unfold pairN; rw [beq_iff_eq]; split <;> omega
        have hr2 : (pairN a a % 7 == a) = true := by unfold pairN; rw [beq_iff_eq]; split <;> omega
        generalize pairN a a = P at *
        go_wp2_with fail
        refine (ipairOf_any a a _).mono ?_
        rintro e w' ⟨rfl, rfl⟩
        rw [HP.out]
        go_wp2_with fail
        refine (spairOf_any a a _).mono ?_
        rintro e w' ⟨rfl, rfl⟩
        rw [HP.out]
        go_wp2_with fail
        refine (ipairOf_any a a _).mono ?_
        rintro e w' ⟨rfl, rfl⟩
        rw [HP'.out]
        go_wp2
        go_ret
        exact ⟨rfl, B1⟩
    · have HP := Lib.hid (show pairOf a b = -1 by unfold pairOf; rw [if_neg hin])
      clear hin
      go_wp2_with fail
      refine (ipairOf_any a b _).mono ?_
      rintro e w' ⟨rfl, rfl⟩
      rw [HP.out]
      go_wp2_with fail
      refine (spairOf_any a b _).mono ?_
      rintro e w' ⟨rfl, rfl⟩
      rw [HP.out]
      go_wp2_with fail
      refine (alive_any _).mono ?_
      rintro e w2 ⟨rfl, b2⟩
      go_wp2
      go_ret
      exact ⟨rfl, bl_go B1 b2⟩
  · have hg : decide ((1048576 : Int) < (bs.length : Int)) = true := by simp; omega
    go_enter Try.func4, Try.ntmps4
    go_wp2
    go_ret
    exact ⟨rfl, Below.refl _ _⟩
end Go.Proofs.Ytealmphaoolglaa

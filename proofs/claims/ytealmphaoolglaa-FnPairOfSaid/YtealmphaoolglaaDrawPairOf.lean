/- Contract: DrawPairOf. -/
import Derived.Test.YtealmphaoolglaaDraw
namespace Go.Proofs.Ytealmphaoolglaa
open Go.RowKit

def Two (P : Int → Int → Prop) (w : World) (e : Ending) (w' : World) : Prop := ∃ a b : Int, e = .returned (.tuple #[.int .i64 a, .int .i64 b]) ∧ P a b ∧ Below w.heap.size w w'
set_option maxHeartbeats 2000000 in
theorem drawPairOf_any (A : Option Addr) (c : Nat) (bs : List Int) (w : World) (hr : Rd w A (bs.map (.int .u8))) (hw : ∀ x ∈ bs, 0 ≤ x ∧ x ≤ 255) (hn : bs.length ≤ 1048576) (hcap : bs.length ≤ c) :
    Calls Try.prog 17 #[.slice A bs.length c] w (Two (fun a b => -10 ≤ a ∧ a ≤ 20 ∧ -10 ≤ b ∧ b ≤ 20) w) := by
  have HW := Lib.hid hw
  clear hw
  go_enter Try.func17, Try.ntmps17
  go_wp2_with fail
  refine (open_any A c bs _ hr HW.out hn hcap).mono ?_
  rintro e w1 ⟨g, A1, c1, by1, rfl, O1⟩
  go_wp2_with fail
  refine (pick_any 7 _ g A1 c1 by1 0 O1.1 (by omega) (by omega)).mono ?_
  rintro e w2 ⟨r1, rfl, ⟨p1, q1⟩, S2, G2⟩
  have O2 := O1.pick S2 G2
  have q1' : r1 ≤ 6 := by omega
  clear q1 S2 G2 O1
  go_wp2_with fail
  refine (pick_any 20 _ g A1 c1 by1 _ O2.1 (by omega) (by omega)).mono ?_
  rintro e w3 ⟨r2, rfl, ⟨p2, q2⟩, S3, G3⟩
  have O3 := O2.pick S3 G3
  have q2' : r2 ≤ 19 := by omega
  clear q2 S3 G3 O2
  go_wp2_with fail
  refine (pick_any 7 _ g A1 c1 by1 _ O3.1 (by omega) (by omega)).mono ?_
  rintro e w4 ⟨r3, rfl, ⟨p3, q3⟩, S4, G4⟩
  have O4 := O3.pick S4 G4
  have q3' : r3 ≤ 6 := by omega
  clear q3 S4 G4 O3
  go_wp2_with fail
  refine (pick_any 20 _ g A1 c1 by1 _ O4.1 (by omega) (by omega)).mono ?_
  rintro e w5 ⟨r4, rfl, ⟨p4, q4⟩, S5, G5⟩
  have O5 := O4.pick S5 G5
  have q4' : r4 ≤ 19 := by omega
  clear q4 S5 G5 O4
  go_wp2
  go_ret2
  exact ⟨_, _, rfl, by omega, O5.2.2⟩
end Go.Proofs.Ytealmphaoolglaa


/- Contracts: the reference's PieceMoved, PieceTurn, PieceFlip. -/
import Derived.Test.YtohbnogmeldmpaaMoveS
namespace Go.Proofs.Ytohbnogmeldmpaa
open Go.RowKit Go.Sort

set_option maxHeartbeats 1000000 in
theorem sPieceMoved_any (A : Option Addr) (c : Nat) (ps : List Ce) (w : World) (hr : RdC w A ps) (hn : ps.length ≤ maxLen) (hcap : ps.length ≤ c) :
    Calls Try.prog 23 #[.slice A ps.length c] w (NewRdK (mvdV stayC ps) w) := by
  cases hp : pieceB ps with
  | true =>
    obtain ⟨⟨h1, h5⟩, hb, hnd, -⟩ := ok_of_pieceB hp
    rw [show mvdV stayC ps = mvd ps by unfold mvdV; rw [if_pos hp, map_stay]]
    have HP := Lib.hid hp
    have HB := Lib.hid (show ∀ q ∈ ps, inBd 9 q from hb)
    have HN := Lib.hid hnd
    clear hp hb hnd
    go_enter Try.func23, Try.ntmps23
    go_wp2_with fail
    refine (sPieceValid_any _ _ _ _ hr hn hcap).mono ?_
    rintro e w1 ⟨rfl, b1⟩
    rw [HP.out]
    go_wp2_with fail
    refine (l8Moved_any _ _ _ _ (hr.belo b1) h1 h5 HB.out HN.out).mono ?_
    rintro e w2 ⟨A2, c2, rfl, r2, b2, f2⟩
    go_wp2
    go_ret
    exact ⟨A2, c2, rfl, r2, bl_go b1 b2, fun ad h => by have := f2.1 ad h; have := b1.size; omega, f2.2⟩
  | false =>
    rw [show mvdV stayC ps = [] by unfold mvdV; rw [hp]; rfl]
    have HP := Lib.hid hp
    clear hp
    go_enter Try.func23, Try.ntmps23
    go_wp2_with fail
    refine (sPieceValid_any _ _ _ _ hr hn hcap).mono ?_
    rintro e w1 ⟨rfl, b1⟩
    rw [HP.out]
    go_wp2
    go_ret
    refine ⟨_, _, rfl, Rd.nil _ _, bl_alloc b1 _, fun ad h => ?_, Nat.zero_le _⟩
    injection h with h
    subst h
    exact b1.size
/-- numbers of 64 bits -/
def okI (x : Int) : Prop := -9223372036854775808 ≤ x ∧ x ≤ 9223372036854775807
def okC (c : Ce) : Prop := okI c.1 ∧ okI c.2
def negI (x : Int) : Int := IntKind.i64.wrap (-x)
theorem negI_ok {x : Int} (h : okI x) (hx : x ≠ -9223372036854775808) : negI x = -x := by unfold okI at h; unfold negI; exact IntWalk.i64_in _ (by omega)
theorem negI_min : negI (-9223372036854775808) = -9223372036854775808 := by decide
def turnW (c : Ce) : Ce := (negI c.2, c.1)
def flipW (c : Ce) : Ce := (negI c.1, c.2)
theorem turnW_eq {ps : List Ce} (hw : ∀ q ∈ ps, okC q) : mvdV stayC (ps.map turnW) = mvdV turnC ps := by
  by_cases hm : ∃ q ∈ ps, q.2 = -9223372036854775808
  · obtain ⟨q, hq, hqm⟩ := hm
    have e1 : pieceB ps = false := pieceB_f (fun hk => by have := hk.2.1 q hq; omega)
    have e2 : pieceB (ps.map turnW) = false := pieceB_f (fun hk => by
      have := hk.2.1 (turnW q) (List.mem_map_of_mem hq)
      have e : (turnW q).1 = -9223372036854775808 := by unfold turnW; rw [hqm]; exact negI_min
      omega)
    unfold mvdV
    rw [e1, e2]; rfl
  · have e : ps.map turnW = ps.map turnC := by
      refine List.map_congr_left (fun q hq => ?_)
      have h1 := hw q hq
      unfold turnW turnC
      rw [negI_ok h1.2 (fun hh => hm ⟨q, hq, hh⟩)]
    unfold mvdV
    rw [e, map_stay, pieceB_turn]
theorem flipW_eq {ps : List Ce} (hw : ∀ q ∈ ps, okC q) : mvdV stayC (ps.map flipW) = mvdV flipC ps := by
  by_cases hm : ∃ q ∈ ps, q.1 = -9223372036854775808
  · obtain ⟨q, hq, hqm⟩ := hm
    have e1 : pieceB ps = false := pieceB_f (fun hk => by have := hk.2.1 q hq; omega)
    have e2 : pieceB (ps.map flipW) = false := pieceB_f (fun hk => by
      have := hk.2.1 (flipW q) (List.mem_map_of_mem hq)
      have e : (flipW q).1 = -9223372036854775808 := by unfold flipW; rw [hqm]; exact negI_min
      omega)
    unfold mvdV
    rw [e1, e2]; rfl
  · have e : ps.map flipW = ps.map flipC := by
      refine List.map_congr_left (fun q hq => ?_)
      have h1 := hw q hq
      unfold flipW flipC
      rw [negI_ok h1.1 (fun hh => hm ⟨q, hq, hh⟩)]
    unfold mvdV
    rw [e, map_stay, pieceB_flip]
end Go.Proofs.Ytohbnogmeldmpaa

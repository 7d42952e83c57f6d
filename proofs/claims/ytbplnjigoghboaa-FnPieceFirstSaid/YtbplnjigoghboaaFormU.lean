/- Contracts: the reference's PieceForms of any list, PieceFirst, SamePiece. -/
import Derived.Test.YtbplnjigoghboaaFormT
namespace Go.Proofs.Ytbplnjigoghboaa
open Go.RowKit Go.Sort

set_option maxRecDepth 100000 in
set_option maxHeartbeats 1000000 in
theorem sPieceForms_f (A : Option Addr) (c : Nat) (ps : List Ce) (w : World) (hr : RdC w A ps) (hn : ps.length ≤ maxLen) (hcap : ps.length ≤ c) (hp : pieceB ps = false) :
    Calls Try.prog 96 #[.slice A ps.length c] w (NewRdSS (formsV ps) w) := by
  rw [formsV_no hp]
  have C0 := Lib.hid (fun (z : World) (R : RdC z A ps) => by
    have := sPieceMoved_any A c ps z R hn hcap
    rw [mvdV_no stayC hp] at this
    exact this)
  have Z1 := bl_alloc (Below.refl w.heap.size w) (.cells #[] 31)
  have R1 : RdC (w.alloc (.cells #[] 31)) A ps := hr.alloc _
  clear hr hn hcap hp
  go_enter Try.func96, Try.ntmps96
  go_wp2_with fail
  refine (C0.out _ R1).mono ?_
  rintro e w1 ⟨B0, c0, rfl, r0, b0, -⟩
  have Z2 := bl_go Z1 b0
  clear r0 b0 Z1 R1
  simp only [List.length_nil]
  go_wp2_with fail
  refine wp_loop_rounds 1 ?_
  rw [rounds_succ]
  go_wp2_with fail
  go_ret
  exact ⟨w.heap.size, 0, [], rfl, Nat.le_refl _, Rd.nil _ _, ⟨rfl, fun k h => absurd h (Nat.not_lt_zero k)⟩, Z2⟩
theorem sPieceForms_any (A : Option Addr) (c : Nat) (ps : List Ce) (w : World) (hr : RdC w A ps) (hn : ps.length ≤ maxLen) (hcap : ps.length ≤ c) :
    Calls Try.prog 96 #[.slice A ps.length c] w (NewRdSS (formsV ps) w) := by
  cases hp : pieceB ps with
  | true => exact sPieceForms_t A c ps w hr hn hcap hp
  | false => exact sPieceForms_f A c ps w hr hn hcap hp
theorem getD0_head {α : Type} {d : α} : ∀ (l : List α) (h : 0 < l.length), l[0] = l.headD d
  | _ :: _, _ => rfl
set_option maxHeartbeats 1000000 in
theorem sPieceFirst_any (A : Option Addr) (c : Nat) (ps : List Ce) (w : World) (hr : RdC w A ps) (hn : ps.length ≤ maxLen) (hcap : ps.length ≤ c) :
    Calls Try.prog 28 #[.slice A ps.length c] w (NewRdL (firstV ps) (firstV ps).length w) := by
  have C0 := Lib.hid (sPieceForms_any A c ps w hr hn hcap)
  by_cases h0 : 0 < (formsV ps).length
  · have HF := Lib.hid (show (formsV ps)[0] = firstV ps by unfold firstV; exact getD0_head _ h0)
    obtain ⟨N, hN⟩ : ∃ N, (formsV ps).length = N := ⟨_, rfl⟩
    have HN := Lib.hid hN
    have h0' : 0 < N := by omega
    have h0b : (0 : Int) < (N : Int) := by omega
    have hne : ((N : Int) == 0) = false := by rw [beq_eq_false_iff_ne]; omega
    clear hN
    go_enter Try.func28, Try.ntmps28
    go_wp2_with fail
    refine C0.out.mono ?_
    rintro e w1 ⟨b, c', xs, rfl, hc, hrd, hhd, b1⟩
    obtain ⟨B, c1, e1, -, r1⟩ := hhd.2 0 h0
    have d1 : w1.cell? ⟨b, 0, none⟩ = some (.slice B (formsV ps)[0].length c1) := by
      obtain ⟨ad, e, hcc⟩ := hrd (by rintro rfl; simp at e1)
      injection e with e
      subst e
      have := hcc 0 _ e1
      rw [add_zero'] at this
      exact this
    rw [HF.out] at d1 r1
    rw [HN.out]
    clear hc hrd hhd e1
    go_wp2_with fail
    go_ret
    exact ⟨B, c1, rfl, r1, b1⟩
  · have hnil : formsV ps = [] := List.eq_nil_of_length_eq_zero (by omega)
    have HF := Lib.hid (show firstV ps = [] by unfold firstV; rw [hnil]; rfl)
    rw [hnil] at C0
    clear hnil h0
    go_enter Try.func28, Try.ntmps28
    go_wp2_with fail
    refine C0.out.mono ?_
    rintro e w1 ⟨b, c', xs, rfl, hc, hrd, hhd, b1⟩
    simp only [List.length_nil]
    go_wp2_with fail
    go_ret
    rw [HF.out]
    exact ⟨_, _, rfl, Rd.nil _ _, bl_alloc b1 _⟩
/-- .. in the words of the exact laws -/
def NewRdT (p : List Ce) (w : World) (e : Ending) (w' : World) : Prop :=
  ∃ (A : Option Addr) (c : Nat), e = .returned (.slice A p.length c) ∧ RdC w' A p ∧ Below w.heap.size w w' ∧ True
theorem sPieceFirstT_any (A : Option Addr) (c : Nat) (ps : List Ce) (w : World) (hr : RdC w A ps) (hn : ps.length ≤ maxLen) (hcap : ps.length ≤ c) :
    Calls Try.prog 28 #[.slice A ps.length c] w (NewRdT (firstV ps) w) :=
  (sPieceFirst_any A c ps w hr hn hcap).mono fun _ _ ⟨A, c, h1, h2, h3⟩ => ⟨A, c, h1, h2, h3, trivial⟩
theorem firstV_len_le (ps : List Ce) : (firstV ps).length ≤ 5 := by
  cases hp : pieceB ps with
  | true => rw [first_len (ok_of_pieceB hp)]; exact (ok_of_pieceB hp).1.2
  | false => rw [first_no hp]; simp
end Go.Proofs.Ytbplnjigoghboaa

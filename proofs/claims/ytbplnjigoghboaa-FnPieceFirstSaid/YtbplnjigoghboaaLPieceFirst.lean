/- The walk of the law FnPieceFirst. -/
import Derived.Test.YtbplnjigoghboaaPieceCmp
import Derived.Test.YtbplnjigoghboaaPiecesI
import Derived.Test.YtbplnjigoghboaaPiecesL
import Derived.Test.YtbplnjigoghboaaFormJ
import Derived.Test.YtbplnjigoghboaaFormU
import Derived.Test.YtbplnjigoghboaaAlive
namespace Go.Proofs.Ytbplnjigoghboaa
open Go.RowKit

/-- a new list of cells of a length that is told -/
def NewOT (p : List Ce) (L : Nat) (w : World) (e : Ending) (w' : World) : Prop := ∃ A : Option Addr, e = .returned (.slice A L L) ∧ RdC w' A p ∧ Below w.heap.size w w'
theorem NewOC.toT {p : List Ce} {L : Nat} (hl : p.length = L) {w : World} {e : Ending} {w' : World} (h : NewOC p w e w') : NewOT p L w e w' := by
  subst hl
  obtain ⟨A, h1, h2, h3⟩ := h
  exact ⟨A, h1, h2.rd, h3⟩
theorem NewC.toT {p : List Ce} {L : Nat} (hl : p.length = L) {w : World} {e : Ending} {w' : World} (h : NewC p w e w') : NewOT p L w e w' := by
  subst hl
  obtain ⟨A, h1, h2, h3⟩ := h
  exact ⟨A, h1, h2.rd, h3⟩
set_option maxRecDepth 100000 in
set_option maxHeartbeats 4000000 in
theorem fnPieceFirst_walk {w0 : World} (A : Option Addr) (c : Nat) (bs : List Int) (hcap : bs.length ≤ c) (hm : bs.length ≤ maxLen) (hr : Rd w0 A (bs.map (.int .u8))) (hw : ∀ n ∈ bs, 0 ≤ n ∧ n ≤ 255) :
    Calls Try.prog 5 #[.slice A bs.length c] w0 fun e w' => e = .returned (.bool true) ∧ Below w0.heap.size w0 w' := by
  have HW := Lib.hid hw
  clear hw
  unfold maxLen at hm
  by_cases hn : bs.length ≤ 1048576
  · have hg : decide ((1048576 : Int) < (bs.length : Int)) = false := by simp; omega
    go_enter Try.func5, Try.ntmps5
    go_wp2_with fail
    refine (drawPieceFirst_any A c bs _ hr HW.out hn hcap).mono ?_
    rintro e w1 ⟨B, k, ps, rfl, R1, hk, hl, -, B1⟩
    clear hg hn hm hr HW hcap
    have hmx : ps.length ≤ maxLen := by unfold maxLen; omega
    have CV := Lib.hid (fun (z : World) (R : RdC z B ps) => sPieceValid_any B k ps z R hmx hk)
    have CS := Lib.hid (fun (z : World) (R : RdC z B ps) => sPieceFirst_any B k ps z R hmx hk)
    cases hv : pieceB ps with
    | false =>
      have CI := Lib.hid (fun (z : World) (R : RdC z B ps) => iPieceFirst_any B k ps z R hmx hk)
      rw [first_no hv] at CI CS
      have HV := Lib.hid hv
      clear hv
      go_wp2_with fail
      refine (CI.out _ R1).mono ?_
      rintro e w2 ⟨A2, rfl, W2, b2⟩
      have R2 : RdC w2 B ps := Rd.belo R1 b2
      have B2 := bl_go B1 b2
      simp only [List.length_nil]
      go_wp2_with fail
      refine (CS.out _ R2).mono ?_
      rintro e w3 ⟨A3, c3, rfl, r3, b3⟩
      have R3 : RdC w3 B ps := Rd.belo R2 b3
      have B3 := bl_go B2 b3
      simp only [List.length_nil]
      go_wp2_with fail
      refine (sameCellsA_any _ _ _ _ [] [] _ (Rd.nil _ _) (Rd.nil _ _) (by simp)).mono ?_
      rintro e w4 ⟨rfl, b4⟩
      have R4 : RdC w4 B ps := Rd.belo R3 b4
      have B4 := bl_go B3 b4
      go_wp2_with (first
        | (go_at_call 29; refine (CV.out _ R4).mono ?_; rintro e w5 ⟨rfl, b5⟩; rw [HV.out])
        | (go_at_call 22; refine (alive_any _).mono ?_; rintro e w6 ⟨rfl, b6⟩))
      go_ret
      exact ⟨rfl, bl_go (bl_go B4 b5) b6⟩
    | true =>
      have hok := ok_of_pieceB hv
      have HV := Lib.hid hv
      clear hv
      obtain ⟨L, hL⟩ : ∃ L, ps.length = L := ⟨_, rfl⟩
      have hXl := (first_len hok).trans hL
      have hTl := (mvdV_lenE turnC hok).trans hL
      have hFl := (mvdV_lenE flipC hok).trans hL
      have tT := forms_of_form (turn_mem0 hok)
      have tF := forms_of_form (flip_mem0 hok)
      have eT : firstV (mvdV turnC ps) = firstV ps := by unfold firstV; rw [tT.1]
      have eF : firstV (mvdV flipC ps) = firstV ps := by unfold firstV; rw [tF.1]
      have eX : firstV (firstV ps) = firstV ps := first_first hok
      have hin : firstV ps ∈ allV (L : Int) := by
        unfold allV
        rw [if_pos (by have := hok.1; omega)]
        exact first_in L ps hok hL
      have hAl := allV_len (L : Int)
      have H7 := Lib.hid (fun x hx => by have := allV_each (L : Int) x hx; omega : ∀ x ∈ allV (L : Int), x.length ≤ 7)
      have CA := Lib.hid (fun (z : World) => iPiecesAll_any (L : Int) z)
      generalize allV (L : Int) = F at hin hAl H7 CA
      have CT := Lib.hid (fun (z : World) (R : RdC z B ps) => (iPieceTurn_any B k ps z R hmx hk).mono fun _ _ h => h.toT hTl)
      have CF := Lib.hid (fun (z : World) (R : RdC z B ps) => (iPieceFlip_any B k ps z R hmx hk).mono fun _ _ h => h.toT hFl)
      have CI := Lib.hid (fun (z : World) (R : RdC z B ps) => (iPieceFirst_any B k ps z R hmx hk).mono fun _ _ h => h.toT hXl)
      have hmL : L ≤ maxLen := by omega
      have C2 := Lib.hid (fun (q : List Ce) (z : World) (D : Option Addr) (R : RdC z D q) (hq : q.length = L) (hf : firstV q = firstV ps) => (show Calls Try.prog 26 #[.slice D L L] z (NewOT (firstV ps) L z) by
        have := iPieceFirst_any D L q z R (by omega) (by omega)
        rw [hq, hf] at this
        exact this.mono fun _ _ h => h.toT hXl))
      rw [hXl] at CS
      have HT := Lib.hid (And.intro hTl eT)
      have HF := Lib.hid (And.intro hFl eF)
      have HX := Lib.hid (And.intro hXl eX)
      clear tT tF hTl eT hFl eF hXl eX hmL
      generalize mvdV turnC ps = pT at *
      generalize mvdV flipC ps = pF at *
      generalize firstV ps = X at *
      have CE := Lib.hid (fun (z : World) (D E : Option Addr) (c c' : Nat) (R : RdC z D X) (R' : RdC z E X) => (show Calls Try.prog 27 #[.slice D L c, .slice E L c'] z fun e w' => e = .returned (.bool true) ∧ Below z.heap.size z w' by
        have h := sameCellsA_any D E c c' X X z R R' (by have := HX.out.1; have := hok.1; omega)
        rw [HX.out.1] at h
        simpa using h))
      have CH := Lib.hid (fun (z : World) (D E : Option Addr) (c c' : Nat) (R : RdSN z D F) (R' : RdC z E X) => (show Calls Try.prog 32 #[.slice D F.length c, .slice E L c'] z fun e w' => e = .returned (.bool true) ∧ Below z.heap.size z w' by
        have h := hasPiece_any D E c c' F.length F X z R R' rfl (by omega) H7.out
        rw [HX.out.1, decide_eq_true hin] at h
        exact h))
      rw [hL] at CV CS CT CF CI ⊢
      clear hok hin
      go_wp2_with fail
      refine (CI.out _ R1).mono ?_
      rintro e w2 ⟨A2, rfl, X2, b2⟩
      have R2 : RdC w2 B ps := Rd.belo R1 b2
      have B2 := bl_go B1 b2
      clear R1 B1
      go_wp2_with fail
      refine (CS.out _ R2).mono ?_
      rintro e w3 ⟨A3, c3, rfl, r3, b3⟩
      have R3 : RdC w3 B ps := Rd.belo R2 b3
      have X3 : RdC w3 A2 X := Rd.belo X2 b3
      have B3 := bl_go B2 b3
      clear R2 B2 X2
      go_wp2_with fail
      refine (CE.out _ _ _ _ _ X3 r3).mono ?_
      rintro e w4 ⟨rfl, b4⟩
      have R4 : RdC w4 B ps := Rd.belo R3 b4
      have X4 : RdC w4 A2 X := Rd.belo X3 b4
      have B4 := bl_go B3 b4
      clear R3 B3 X3
      go_wp2_with fail
      refine (CV.out _ R4).mono ?_
      rintro e w5 ⟨rfl, b5⟩
      rw [HV.out]
      have R5 : RdC w5 B ps := Rd.belo R4 b5
      have X5 : RdC w5 A2 X := Rd.belo X4 b5
      have B5 := bl_go B4 b5
      clear R4 B4 X4
      go_wp2_with fail
      refine (CT.out _ R5).mono ?_
      rintro e w6 ⟨A6, rfl, T6, b6⟩
      have R6 : RdC w6 B ps := Rd.belo R5 b6
      have X6 : RdC w6 A2 X := Rd.belo X5 b6
      have B6 := bl_go B5 b6
      clear R5 B5 X5
      go_wp2_with fail
      refine (C2.out _ _ _ T6 HT.out.1 HT.out.2).mono ?_
      rintro e w7 ⟨A7, rfl, T7, b7⟩
      have R7 : RdC w7 B ps := Rd.belo R6 b7
      have X7 : RdC w7 A2 X := Rd.belo X6 b7
      have B7 := bl_go B6 b7
      clear R6 B6 X6
      go_wp2_with fail
      refine (CE.out _ _ _ _ _ T7 X7).mono ?_
      rintro e w8 ⟨rfl, b8⟩
      have R8 : RdC w8 B ps := Rd.belo R7 b8
      have X8 : RdC w8 A2 X := Rd.belo X7 b8
      have B8 := bl_go B7 b8
      clear R7 B7 X7
      go_wp2_with fail
      refine (CF.out _ R8).mono ?_
      rintro e w9 ⟨A9, rfl, T9, b9⟩
      have R9 : RdC w9 B ps := Rd.belo R8 b9
      have X9 : RdC w9 A2 X := Rd.belo X8 b9
      have B9 := bl_go B8 b9
      clear R8 B8 X8
      go_wp2_with fail
      refine (C2.out _ _ _ T9 HF.out.1 HF.out.2).mono ?_
      rintro e w10 ⟨A10, rfl, T10, b10⟩
      have X10 : RdC w10 A2 X := Rd.belo X9 b10
      have B10 := bl_go B9 b10
      clear R9 B9 X9
      go_wp2_with fail
      refine (CE.out _ _ _ _ _ T10 X10).mono ?_
      rintro e w11 ⟨rfl, b11⟩
      have X11 : RdC w11 A2 X := Rd.belo X10 b11
      have B11 := bl_go B10 b11
      clear B10 X10
      go_wp2_with fail
      refine (C2.out _ _ _ X11 HX.out.1 HX.out.2).mono ?_
      rintro e w12 ⟨A12, rfl, T12, b12⟩
      have X12 : RdC w12 A2 X := Rd.belo X11 b12
      have B12 := bl_go B11 b12
      clear B11 X11
      go_wp2_with fail
      refine (CE.out _ _ _ _ _ T12 X12).mono ?_
      rintro e w13 ⟨rfl, b13⟩
      have X13 : RdC w13 A2 X := Rd.belo X12 b13
      have B13 := bl_go B12 b13
      clear B12 X12
      go_wp2_with fail
      refine (CA.out _).mono ?_
      rintro e w14 ⟨A14, xs14, rfl, rd14, -, hd14, -, b14⟩
      have X14 : RdC w14 A2 X := Rd.belo X13 b14
      have B14 := bl_go B13 b14
      clear B13 X13
      go_wp2_with fail
      refine (CH.out _ _ _ _ _ (RdSN.ofR rd14 hd14) X14).mono ?_
      rintro e w15 ⟨rfl, b15⟩
      go_wp2
      go_ret
      exact ⟨rfl, bl_go B14 b15⟩
  · have hg : decide ((1048576 : Int) < (bs.length : Int)) = true := by simp; omega
    go_enter Try.func5, Try.ntmps5
    go_wp2
    go_ret
    exact ⟨rfl, Below.refl _ _⟩
end Go.Proofs.Ytbplnjigoghboaa

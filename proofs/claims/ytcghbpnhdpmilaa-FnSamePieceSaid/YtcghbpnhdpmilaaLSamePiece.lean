/- The walk of the law FnSamePiece. -/
import Derived.Test.YtcghbpnhdpmilaaDrawSame
import Derived.Test.YtcghbpnhdpmilaaFormJ
import Derived.Test.YtcghbpnhdpmilaaFormU
import Derived.Test.YtcghbpnhdpmilaaAlive
namespace Go.Proofs.Ytcghbpnhdpmilaa
open Go.RowKit

theorem sameV_symm (a b : List Ce) : sameV b a = sameV a b := by
  unfold sameV
  rw [Bool.and_comm (pieceB b), show decide (firstV b = firstV a) = decide (firstV a = firstV b) from decide_eq_decide.2 ⟨fun h => h.symm, fun h => h.symm⟩]
theorem sameV_self (a : List Ce) : sameV a a = pieceB a := by unfold sameV; simp
theorem sameV_len {a b : List Ce} (h : sameV a b = true) : a.length = b.length ∧ (formsV a).length = (formsV b).length := by
  unfold sameV at h
  rw [Bool.and_eq_true, Bool.and_eq_true, decide_eq_true_eq] at h
  obtain ⟨h1, h2⟩ := same_forms (ok_of_pieceB h.1.1) (ok_of_pieceB h.1.2) h.2
  exact ⟨h2, by rw [h1]⟩
theorem same_wv (a b : List Ce) : sameW a b = sameV a b := rfl
/-- a list of lists of so many -/
def ManyL (N : Nat) (w : World) (e : Ending) (w' : World) : Prop := ∃ A : Option Addr, e = .returned (.slice A N N) ∧ Below w.heap.size w w'
theorem NewSS.many {F : List (List Ce)} {N : Nat} (hN : F.length = N) {w : World} {e : Ending} {w' : World} (h : NewSS F w e w') : ManyL N w e w' := by
  subst hN
  obtain ⟨A, xs, h1, -, -, -, -, h6⟩ := h
  exact ⟨A, h1, h6⟩
set_option maxRecDepth 100000 in
set_option maxHeartbeats 4000000 in
theorem fnSamePiece_walk {w0 : World} (A : Option Addr) (c : Nat) (bs : List Int) (hcap : bs.length ≤ c) (hm : bs.length ≤ maxLen) (hr : Rd w0 A (bs.map (.int .u8))) (hw : ∀ n ∈ bs, 0 ≤ n ∧ n ≤ 255) :
    Calls Try.prog 12 #[.slice A bs.length c] w0 fun e w' => e = .returned (.bool true) ∧ Below w0.heap.size w0 w' := by
  have HW := Lib.hid hw
  clear hw
  unfold maxLen at hm
  by_cases hn : bs.length ≤ 1048576
  · have hg : decide ((1048576 : Int) < (bs.length : Int)) = false := by simp; omega
    go_enter Try.func12, Try.ntmps12
    go_wp2_with fail
    refine (drawSamePiece_any A c bs _ hr HW.out hn hcap).mono ?_
    rintro e w1 ⟨B, k, ps, B2, k2, qs, rfl, R1, hk, hl, Q1, hk2, hl2, B1⟩
    clear hg hn hm hr HW hcap
    have m1 : ps.length ≤ maxLen := by unfold maxLen; omega
    have m2 : qs.length ≤ maxLen := by unfold maxLen; omega
    have C1 := Lib.hid (fun (z : World) (R : RdC z B ps) (Q : RdC z B2 qs) => iSamePiece_any B B2 k k2 ps qs z R Q m1 m2 hk hk2)
    have C2 := Lib.hid (fun (z : World) (R : RdC z B ps) (Q : RdC z B2 qs) => by
      have := sSamePiece_any B B2 k k2 ps qs z R Q m1 m2 hk hk2
      rw [same_wv] at this
      exact this)
    have C3 := Lib.hid (fun (z : World) (R : RdC z B ps) (Q : RdC z B2 qs) => by
      have := iSamePiece_any B2 B k2 k qs ps z Q R m2 m1 hk2 hk
      rw [sameV_symm] at this
      exact this)
    have C4 := Lib.hid (fun (z : World) (R : RdC z B ps) => by
      have := iSamePiece_any B B k k ps ps z R R m1 m1 hk hk
      rw [sameV_self] at this
      exact this)
    have C5 := Lib.hid (fun (z : World) (R : RdC z B ps) => iPieceValid_any B k ps z R m1 hk)
    have HLN := Lib.hid (fun h => sameV_len (a := ps) (b := qs) h)
    obtain ⟨N, hN⟩ : ∃ N, (formsV ps).length = N := ⟨_, rfl⟩
    have C6 := Lib.hid (fun (z : World) (R : RdC z B ps) => (iPieceForms_any B k ps z R m1 hk).mono fun _ _ h => h.many hN)
    have C7 := Lib.hid (fun (h : sameV ps qs = true) (z : World) (R : RdC z B2 qs) => (iPieceForms_any B2 k2 qs z R m2 hk2).mono fun _ _ h2 => h2.many (N := N) ((sameV_len h).2.symm.trans hN))
    obtain ⟨v, hv⟩ : ∃ v, pieceB ps = v := ⟨_, rfl⟩
    rw [hv] at C4 C5
    have hvv : (v == v) = true := by simp
    clear hN hv m1 m2
    cases hs : sameV ps qs with
    | false =>
      rw [hs] at C1 C2 C3
      clear hs
      go_wp2_with fail
      refine (C1.out _ R1 Q1).mono ?_
      rintro e w2 ⟨rfl, b2⟩
      have R2 : RdC w2 B ps := Rd.belo R1 b2
      have Q2 : RdC w2 B2 qs := Rd.belo Q1 b2
      have Z2 := bl_go B1 b2
      clear R1 Q1 B1 b2
      go_wp2_with fail
      refine (C2.out _ R2 Q2).mono ?_
      rintro e w3 ⟨rfl, b3⟩
      have R3 : RdC w3 B ps := Rd.belo R2 b3
      have Q3 : RdC w3 B2 qs := Rd.belo Q2 b3
      have Z3 := bl_go Z2 b3
      clear R2 Q2 Z2 b3
      go_wp2_with fail
      refine (C3.out _ R3 Q3).mono ?_
      rintro e w4 ⟨rfl, b4⟩
      have R4 : RdC w4 B ps := Rd.belo R3 b4
      have Z4 := bl_go Z3 b4
      clear R3 Q3 Z3 b4
      go_wp2_with fail
      refine (C4.out _ R4).mono ?_
      rintro e w5 ⟨rfl, b5⟩
      have R5 : RdC w5 B ps := Rd.belo R4 b5
      have Z5 := bl_go Z4 b5
      clear R4 Z4 b5
      go_wp2_with fail
      refine (C5.out _ R5).mono ?_
      rintro e w6 ⟨rfl, b6⟩
      have Z6 := bl_go Z5 b6
      clear R5 Z5 b6
      go_wp2_with fail
      refine (alive_any _).mono ?_
      rintro e w7 ⟨rfl, b7⟩
      go_wp2_with fail
      go_ret
      exact ⟨rfl, bl_go Z6 b7⟩
    | true =>
      obtain ⟨hlen, -⟩ := HLN.out hs
      have C7' := Lib.hid (C7.out hs)
      have heq : ((ps.length : Int) == (qs.length : Int)) = true := by rw [beq_iff_eq]; omega
      have hNN : ((N : Int) == (N : Int)) = true := by simp
      rw [hs] at C1 C2 C3
      clear hs hlen C7 HLN
      go_wp2_with fail
      refine (C1.out _ R1 Q1).mono ?_
      rintro e w2 ⟨rfl, b2⟩
      have R2 : RdC w2 B ps := Rd.belo R1 b2
      have Q2 : RdC w2 B2 qs := Rd.belo Q1 b2
      have Z2 := bl_go B1 b2
      clear R1 Q1 B1 b2
      go_wp2_with fail
      refine (C2.out _ R2 Q2).mono ?_
      rintro e w3 ⟨rfl, b3⟩
      have R3 : RdC w3 B ps := Rd.belo R2 b3
      have Q3 : RdC w3 B2 qs := Rd.belo Q2 b3
      have Z3 := bl_go Z2 b3
      clear R2 Q2 Z2 b3
      go_wp2_with fail
      refine (C3.out _ R3 Q3).mono ?_
      rintro e w4 ⟨rfl, b4⟩
      have R4 : RdC w4 B ps := Rd.belo R3 b4
      have Q4 : RdC w4 B2 qs := Rd.belo Q3 b4
      have Z4 := bl_go Z3 b4
      clear R3 Q3 Z3 b4
      go_wp2_with fail
      refine (C4.out _ R4).mono ?_
      rintro e w5 ⟨rfl, b5⟩
      have R5 : RdC w5 B ps := Rd.belo R4 b5
      have Q5 : RdC w5 B2 qs := Rd.belo Q4 b5
      have Z5 := bl_go Z4 b5
      clear R4 Q4 Z4 b5
      go_wp2_with fail
      refine (C5.out _ R5).mono ?_
      rintro e w6 ⟨rfl, b6⟩
      have R6 : RdC w6 B ps := Rd.belo R5 b6
      have Q6 : RdC w6 B2 qs := Rd.belo Q5 b6
      have Z6 := bl_go Z5 b6
      clear R5 Q5 Z5 b6
      go_wp2_with fail
      refine (C6.out _ R6).mono ?_
      rintro e w7 ⟨D7, rfl, b7⟩
      have Q7 : RdC w7 B2 qs := Rd.belo Q6 b7
      have Z7 := bl_go Z6 b7
      clear R6 Q6 Z6 b7
      go_wp2_with fail
      refine (C7'.out _ Q7).mono ?_
      rintro e w8 ⟨D8, rfl, b8⟩
      have Z8 := bl_go Z7 b8
      clear Q7 Z7 b8
      go_wp2_with fail
      refine (alive_any _).mono ?_
      rintro e w9 ⟨rfl, b9⟩
      go_wp2_with fail
      go_ret
      exact ⟨rfl, bl_go Z8 b9⟩
  · have hg : decide ((1048576 : Int) < (bs.length : Int)) = true := by simp; omega
    go_enter Try.func12, Try.ntmps12
    go_wp2
    go_ret
    exact ⟨rfl, Below.refl _ _⟩
end Go.Proofs.Ytcghbpnhdpmilaa

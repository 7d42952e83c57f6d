
/- Contracts: the reference's PieceForms of any list, PieceFirst, SamePiece. -/
import Derived.Test.YtejkbjcmndnfeaaGreatFormT
namespace Go.Proofs.YtejkbjcmndnfeaaGreat
open Go.RowKit Go.Sort

set_option maxRecDepth 100000 in
set_option maxHeartbeats 1000000 in
theorem sPieceForms_f (A : Option Addr) (c : Nat) (ps : List Ce) (w : World) (hr : RdC w A ps) (hn : ps.length ≤ maxLen) (hcap : ps.length ≤ c) (hp : pieceB ps = false) :
    Calls Tryz.prog 155 #[.slice A ps.length c] w (NewRdSS (formsV ps) w) := by
  rw [formsV_no hp]
  have C0 := Lib.hid (fun (z : World) (R : RdC z A ps) => by
    have := sPieceMoved_any A c ps z R hn hcap
    rw [mvdV_no stayC hp] at this
    exact this)
  have Z1 := bl_alloc (Below.refl w.heap.size w) (.cells #[] 32)
  have R1 : RdC (w.alloc (.cells #[] 32)) A ps := hr.alloc _
  clear hr hn hcap hp
  go_enter Tryz.func155, Tryz.ntmps155
  go_wp2_with fail
  refine (C0.out _ R1).mono ?_
  rintro e w1 ⟨B0, c0, rfl, r0, b0, -⟩
  have Z2 := bl_go Z1 b0
  clear r0 b0 Z1 R1
  simp only [List.length_nil]
  go_wp2_with fail
  refine wp_loop_rounds 1 ?_
  rw [rounds_succ]
  go_wp2_with fail
  go_ret
  exact ⟨w.heap.size, 0, [], rfl, Nat.le_refl _, Rd.nil _ _, ⟨rfl, fun k h => absurd h (Nat.not_lt_zero k)⟩, Z2⟩
theorem sPieceForms_any (A : Option Addr) (c : Nat) (ps : List Ce) (w : World) (hr : RdC w A ps) (hn : ps.length ≤ maxLen) (hcap : ps.length ≤ c) :
    Calls Tryz.prog 155 #[.slice A ps.length c] w (NewRdSS (formsV ps) w) := by
  cases hp : pieceB ps with
  | true => exact sPieceForms_t A c ps w hr hn hcap hp
  | false => exact sPieceForms_f A c ps w hr hn hcap hp
theorem getD0_head {α : Type} {d : α} : ∀ (l : List α) (h : 0 < l.length), l[0] = l.headD d
  | _ :: _, _ => rfl
set_option maxHeartbeats 1000000 in
theorem sPieceFirst_any (A : Option Addr) (c : Nat) (ps : List Ce) (w : World) (hr : RdC w A ps) (hn : ps.length ≤ maxLen) (hcap : ps.length ≤ c) :
    Calls Tryz.prog 141 #[.slice A ps.length c] w (NewRdL (firstV ps) (firstV ps).length w) := by
  have C0 := Lib.hid (sPieceForms_any A c ps w hr hn hcap)
  by_cases h0 : 0 < (formsV ps).length
  · have HF := Lib.hid (show (formsV ps)[0] = firstV ps by unfold firstV; exact getD0_head _ h0)
    obtain ⟨N, hN⟩ : ∃ N, (formsV ps).length = N := ⟨_, rfl⟩
    have HN := Lib.hid hN
    have h0' : 0 < N := by omega
    have h0b : (0 : Int) < (N : Int) := by omega
    have hne : ((N : Int) == 0) = false := by rw [beq_eq_false_iff_ne]; omega
    clear hN
    go_enter Tryz.func141, Tryz.ntmps141
    go_wp2_with fail
    refine C0.out.mono ?_
    rintro e w1 ⟨b, c', xs, rfl, hc, hrd, hhd, b1⟩
    obtain ⟨B, c1, e1, -, r1⟩ := hhd.2 0 h0
    have d1 : w1.cell? ⟨b, 0, none⟩ = some (.slice B (formsV ps)[0].length c1) := by
      obtain ⟨ad, e, hcc⟩ := hrd (by rintro rfl; simp at e1)
      injection e with e
      subst e
      have := hcc 0 _ e1
      rw [add_zero'] at this
      exact this
    rw [HF.out] at d1 r1
    rw [HN.out]
    clear hc hrd hhd e1
    go_wp2_with fail
    go_ret
    exact ⟨B, c1, rfl, r1, b1⟩
  · have hnil : formsV ps = [] := List.eq_nil_of_length_eq_zero (by omega)
    have HF := Lib.hid (show firstV ps = [] by unfold firstV; rw [hnil]; rfl)
    rw [hnil] at C0
    clear hnil h0
    go_enter Tryz.func141, Tryz.ntmps141
    go_wp2_with fail
    refine C0.out.mono ?_
    rintro e w1 ⟨b, c', xs, rfl, hc, hrd, hhd, b1⟩
    simp only [List.length_nil]
    go_wp2_with fail
    go_ret
    rw [HF.out]
    exact ⟨_, _, rfl, Rd.nil _ _, bl_alloc b1 _⟩
/-- .. in the words of the exact laws -/
def NewRdT (p : List Ce) (w : World) (e : Ending) (w' : World) : Prop :=
  ∃ (A : Option Addr) (c : Nat), e = .returned (.slice A p.length c) ∧ RdC w' A p ∧ Below w.heap.size w w' ∧ True
theorem sPieceFirstT_any (A : Option Addr) (c : Nat) (ps : List Ce) (w : World) (hr : RdC w A ps) (hn : ps.length ≤ maxLen) (hcap : ps.length ≤ c) :
    Calls Tryz.prog 141 #[.slice A ps.length c] w (NewRdT (firstV ps) w) :=
  (sPieceFirst_any A c ps w hr hn hcap).mono fun _ _ ⟨A, c, h1, h2, h3⟩ => ⟨A, c, h1, h2, h3, trivial⟩
theorem firstV_len_le (ps : List Ce) : (firstV ps).length ≤ 5 := by
  cases hp : pieceB ps with
  | true => rw [first_len (ok_of_pieceB hp)]; exact (ok_of_pieceB hp).1.2
  | false => rw [first_no hp]; simp
theorem listEq_len {α : Type} [DecidableEq α] {a b : List α} (h : a.length ≠ b.length) : decide (a = b) = false := decide_eq_false (fun e => h (by rw [e]))
set_option maxHeartbeats 2000000 in
theorem l8SameN_any (A A' : Option Addr) (c c' : Nat) (ps qs : List Ce) (w : World) (hr : RdC w A ps) (hr' : RdC w A' qs) (hl : ps.length ≠ qs.length) (hn : ps.length ≤ 1000000) :
    Calls Tryz.prog 140 #[.slice A ps.length c, .slice A' qs.length c'] w fun e w' => e = .returned (.bool (decide (ps = qs))) ∧ Below w.heap.size w w' := by
  have HF := Lib.hid (listEq_len hl)
  have hneq := fun W a b x y => neq_cell W a b x y
  have hne : ((ps.length : Int) == (qs.length : Int)) = false := by rw [beq_eq_false_iff_ne]; omega
  go_enter Tryz.func140, Tryz.ntmps140
  go_wp2_with fail
  go_loopw [5] (fun i wr => ∃ k : Nat, k ≤ ps.length ∧ k ≤ qs.length ∧ i = .int .i64 k ∧ Below w.heap.size w wr) (fun i _ => ps.length - (intOf i).toNat)
  case atStart => exact ⟨0, Nat.zero_le _, Nat.zero_le _, rfl, Below.refl _ _⟩
  case round =>
    obtain ⟨k, hk, hk', rfl, Z1⟩ := hrel
    by_cases hlt : k < ps.length
    · by_cases hlt' : k < qs.length
      · obtain ⟨b, off, rfl, c0, c1⟩ := RdC.at_ (w := wr) (Rd.belo hr Z1) hlt
        obtain ⟨b', off', rfl, d0, d1⟩ := RdC.at_ (w := wr) (Rd.belo hr' Z1) hlt'
        generalize ps[k] = z at c0 c1
        generalize qs[k] = z' at d0 d1
        obtain ⟨x, y⟩ := z
        obtain ⟨x', y'⟩ := z'
        simp only at c0 c1 d0 d1
        cases hb : (x == x' && y == y') with
        | true =>
          go_wp2_with fail
          go_quiet (fail)
          go_wp2_with fail
          go_roundw
          case rel => exact ⟨k + 1, by omega, by omega, by go_num, below_drewN' Z1 _⟩
          case measure => simp [intOf]; omega
        | false =>
          go_wp2_with fail
          go_quiet (fail)
          go_wp2_with fail
          go_ret
          exact ⟨ret_b HF.out.symm, below_drewN' Z1 _⟩
      · go_wp2_with fail
        go_ret
        exact ⟨ret_b HF.out.symm, Z1⟩
    · go_wp2_with fail
      go_ret
      exact ⟨ret_b HF.out.symm, Z1⟩
theorem l8SameA_any (A A' : Option Addr) (c c' : Nat) (ps qs : List Ce) (w : World) (hr : RdC w A ps) (hr' : RdC w A' qs) (hn : ps.length ≤ 1000000) :
    Calls Tryz.prog 140 #[.slice A ps.length c, .slice A' qs.length c'] w fun e w' => e = .returned (.bool (decide (ps = qs))) ∧ Below w.heap.size w w' := by
  by_cases hl : ps.length = qs.length
  · have := l8Same_any A A' ps.length c c' ps qs w hr hr' rfl hl.symm hn
    rw [hl] at this ⊢
    exact this
  · exact l8SameN_any A A' c c' ps qs w hr hr' hl hn
/-- whether two pieces are the same -/
noncomputable def sameW (a b : List Ce) : Bool := pieceB a && pieceB b && decide (firstV a = firstV b)
set_option maxRecDepth 100000 in
set_option maxHeartbeats 2000000 in
theorem sSamePiece_any (A A' : Option Addr) (c c' : Nat) (ps qs : List Ce) (w : World) (hr : RdC w A ps) (hr' : RdC w A' qs) (hn : ps.length ≤ maxLen) (hn' : qs.length ≤ maxLen) (hcap : ps.length ≤ c) (hcap' : qs.length ≤ c') :
    Calls Tryz.prog 71 #[.slice A ps.length c, .slice A' qs.length c'] w fun e w' => e = .returned (.bool (sameW ps qs)) ∧ Below w.heap.size w w' := by
  have VA := Lib.hid (fun (z : World) (R : RdC z A ps) => sPieceValid_any A c ps z R hn hcap)
  have VB := Lib.hid (fun (z : World) (R : RdC z A' qs) => sPieceValid_any A' c' qs z R hn' hcap')
  have FA := Lib.hid (fun (z : World) (R : RdC z A ps) => sPieceFirst_any A c ps z R hn hcap)
  have FB := Lib.hid (fun (z : World) (R : RdC z A' qs) => sPieceFirst_any A' c' qs z R hn' hcap')
  have SF := Lib.hid (fun (z : World) (B B' : Option Addr) (d d' : Nat) (R : RdC z B (firstV ps)) (R' : RdC z B' (firstV qs)) => l8SameA_any B B' d d' (firstV ps) (firstV qs) z R R' (by have := firstV_len_le ps; omega))
  obtain ⟨la, hla⟩ : ∃ la, (firstV ps).length = la := ⟨_, rfl⟩
  obtain ⟨lb, hlb⟩ : ∃ lb, (firstV qs).length = lb := ⟨_, rfl⟩
  rw [hla] at FA SF
  rw [hlb] at FB SF
  clear hla hlb
  have hsv : sameW ps qs = (pieceB ps && pieceB qs && decide (firstV ps = firstV qs)) := rfl
  rw [hsv]
  clear hsv hn hn' hcap hcap'
  generalize decide (firstV ps = firstV qs) = dd at SF ⊢
  have HR := Lib.hid hr
  have HR' := Lib.hid hr'
  clear hr hr'
  cases hp : pieceB ps with
  | false =>
    rw [hp] at VA
    clear hp
    go_enter Tryz.func71, Tryz.ntmps71
    go_wp2_with fail
    refine (VA.out _ HR.out).mono ?_
    rintro e w1 ⟨rfl, b1⟩
    go_wp2_with fail
    go_ret
    exact ⟨rfl, b1⟩
  | true =>
    rw [hp] at VA
    clear hp
    cases hq : pieceB qs with
    | false =>
      rw [hq] at VB
      clear hq
      go_enter Tryz.func71, Tryz.ntmps71
      go_wp2_with fail
      refine (VA.out _ HR.out).mono ?_
      rintro e w1 ⟨rfl, b1⟩
      have r1 := Rd.belo HR'.out b1
      go_wp2_with fail
      refine (VB.out _ r1).mono ?_
      rintro e w2 ⟨rfl, b2⟩
      go_wp2_with fail
      go_ret
      exact ⟨rfl, bl_go b1 b2⟩
    | true =>
      rw [hq] at VB
      clear hq
      go_enter Tryz.func71, Tryz.ntmps71
      go_wp2_with fail
      refine (VA.out _ HR.out).mono ?_
      rintro e w1 ⟨rfl, b1⟩
      have q1 := Rd.belo HR'.out b1
      have r1 := Rd.belo HR.out b1
      go_wp2_with fail
      refine (VB.out _ q1).mono ?_
      rintro e w2 ⟨rfl, b2⟩
      have q2 := Rd.belo q1 b2
      have r2 := Rd.belo r1 b2
      have B2 := bl_go b1 b2
      go_wp2_with fail
      refine (FA.out _ r2).mono ?_
      rintro e w3 ⟨B3, c3, rfl, r3, b3⟩
      have q3 := Rd.belo q2 b3
      have B3' := bl_go B2 b3
      go_wp2_with fail
      refine (FB.out _ q3).mono ?_
      rintro e w4 ⟨B4, c4, rfl, r4, b4⟩
      have B4' := bl_go B3' b4
      go_wp2_with fail
      refine (SF.out _ _ _ _ _ (Rd.belo r3 b4) r4).mono ?_
      rintro e w5 ⟨rfl, b5⟩
      go_wp2_with fail
      go_ret
      exact ⟨ret_b (by simp), bl_go B4' b5⟩
end Go.Proofs.YtejkbjcmndnfeaaGreat

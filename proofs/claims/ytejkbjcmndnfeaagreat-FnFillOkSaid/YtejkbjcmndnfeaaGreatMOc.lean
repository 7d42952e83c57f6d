
/- FnFillOk: joined from FormU, FillS, LFillOk. -/
import Derived.Test.YtejkbjcmndnfeaaGreatFormT
import Derived.Test.YtejkbjcmndnfeaaGreatMOa
import Derived.Test.YtejkbjcmndnfeaaGreatBw
import Derived.StillTailTactics
import Derived.Test.YtejkbjcmndnfeaaGreatMOb
import Derived.Test.YtejkbjcmndnfeaaGreatAlive
/- Contracts: the reference's PieceForms of any list, PieceFirst, SamePiece. -/
namespace Go.Proofs.YtejkbjcmndnfeaaGreat
open Go.RowKit Go.Sort

set_option maxRecDepth 100000 in
set_option maxHeartbeats 1000000 in
theorem sPieceForms_f (A : Option Addr) (c : Nat) (ps : List Ce) (w : World) (hr : RdC w A ps) (hn : ps.length ≤ maxLen) (hcap : ps.length ≤ c) (hp : pieceB ps = false) :
    Calls Tryz.prog 155 #[.slice A ps.length c] w (NewRdSS (formsV ps) w) := by
  rw [formsV_no hp]
  have C0 := Lib.hid (fun (z : World) (R : RdC z A ps) => by
    have := sPieceMoved_any A c ps z R hn hcap
    rw [mvdV_no stayC hp] at this
    exact this)
  have Z1 := bl_alloc (Below.refl w.heap.size w) (.cells #[] 32)
  have R1 : RdC (w.alloc (.cells #[] 32)) A ps := hr.alloc _
  clear hr hn hcap hp
  go_enter Tryz.func155, Tryz.ntmps155
  go_wp2_with fail
  refine (C0.out _ R1).mono ?_
  rintro e w1 ⟨B0, c0, rfl, r0, b0, -⟩
  have Z2 := bl_go Z1 b0
  clear r0 b0 Z1 R1
  simp only [List.length_nil]
  go_wp2_with fail
  refine wp_loop_rounds 1 ?_
  rw [rounds_succ]
  go_wp2_with fail
  go_ret
  exact ⟨w.heap.size, 0, [], rfl, Nat.le_refl _, Rd.nil _ _, ⟨rfl, fun k h => absurd h (Nat.not_lt_zero k)⟩, Z2⟩
theorem sPieceForms_any (A : Option Addr) (c : Nat) (ps : List Ce) (w : World) (hr : RdC w A ps) (hn : ps.length ≤ maxLen) (hcap : ps.length ≤ c) :
    Calls Tryz.prog 155 #[.slice A ps.length c] w (NewRdSS (formsV ps) w) := by
  cases hp : pieceB ps with
  | true => exact sPieceForms_t A c ps w hr hn hcap hp
  | false => exact sPieceForms_f A c ps w hr hn hcap hp
theorem getD0_head {α : Type} {d : α} : ∀ (l : List α) (h : 0 < l.length), l[0] = l.headD d
  | _ :: _, _ => rfl
set_option maxHeartbeats 1000000 in
theorem sPieceFirst_any (A : Option Addr) (c : Nat) (ps : List Ce) (w : World) (hr : RdC w A ps) (hn : ps.length ≤ maxLen) (hcap : ps.length ≤ c) :
    Calls Tryz.prog 141 #[.slice A ps.length c] w (NewRdL (firstV ps) (firstV ps).length w) := by
  have C0 := Lib.hid (sPieceForms_any A c ps w hr hn hcap)
  by_cases h0 : 0 < (formsV ps).length
  · have HF := Lib.hid (show (formsV ps)[0] = firstV ps by unfold firstV; exact getD0_head _ h0)
    obtain ⟨N, hN⟩ : ∃ N, (formsV ps).length = N := ⟨_, rfl⟩
    have HN := Lib.hid hN
    have h0' : 0 < N := by omega
    have h0b : (0 : Int) < (N : Int) := by omega
    have hne : ((N : Int) == 0) = false := by rw [beq_eq_false_iff_ne]; omega
    clear hN
    go_enter Tryz.func141, Tryz.ntmps141
    go_wp2_with fail
    refine C0.out.mono ?_
    rintro e w1 ⟨b, c', xs, rfl, hc, hrd, hhd, b1⟩
    obtain ⟨B, c1, e1, -, r1⟩ := hhd.2 0 h0
    have d1 : w1.cell? ⟨b, 0, none⟩ = some (.slice B (formsV ps)[0].length c1) := by
      obtain ⟨ad, e, hcc⟩ := hrd (by rintro rfl; simp at e1)
      injection e with e
      subst e
      have := hcc 0 _ e1
      rw [add_zero'] at this
      exact this
    rw [HF.out] at d1 r1
    rw [HN.out]
    clear hc hrd hhd e1
    go_wp2_with fail
    go_ret
    exact ⟨B, c1, rfl, r1, b1⟩
  · have hnil : formsV ps = [] := List.eq_nil_of_length_eq_zero (by omega)
    have HF := Lib.hid (show firstV ps = [] by unfold firstV; rw [hnil]; rfl)
    rw [hnil] at C0
    clear hnil h0
    go_enter Tryz.func141, Tryz.ntmps141
    go_wp2_with fail
    refine C0.out.mono ?_
    rintro e w1 ⟨b, c', xs, rfl, hc, hrd, hhd, b1⟩
    simp only [List.length_nil]
    go_wp2_with fail
    go_ret
    rw [HF.out]
    exact ⟨_, _, rfl, Rd.nil _ _, bl_alloc b1 _⟩
/-- .. in the words of the exact laws -/
def NewRdT (p : List Ce) (w : World) (e : Ending) (w' : World) : Prop :=
  ∃ (A : Option Addr) (c : Nat), e = .returned (.slice A p.length c) ∧ RdC w' A p ∧ Below w.heap.size w w' ∧ True
theorem sPieceFirstT_any (A : Option Addr) (c : Nat) (ps : List Ce) (w : World) (hr : RdC w A ps) (hn : ps.length ≤ maxLen) (hcap : ps.length ≤ c) :
    Calls Tryz.prog 141 #[.slice A ps.length c] w (NewRdT (firstV ps) w) :=
  (sPieceFirst_any A c ps w hr hn hcap).mono fun _ _ ⟨A, c, h1, h2, h3⟩ => ⟨A, c, h1, h2, h3, trivial⟩
theorem firstV_len_le (ps : List Ce) : (firstV ps).length ≤ 5 := by
  cases hp : pieceB ps with
  | true => rw [first_len (ok_of_pieceB hp)]; exact (ok_of_pieceB hp).1.2
  | false => rw [first_no hp]; simp
theorem listEq_len {α : Type} [DecidableEq α] {a b : List α} (h : a.length ≠ b.length) : decide (a = b) = false := decide_eq_false (fun e => h (by rw [e]))
set_option maxHeartbeats 2000000 in
theorem l8SameN_any (A A' : Option Addr) (c c' : Nat) (ps qs : List Ce) (w : World) (hr : RdC w A ps) (hr' : RdC w A' qs) (hl : ps.length ≠ qs.length) (hn : ps.length ≤ 1000000) :
    Calls Tryz.prog 140 #[.slice A ps.length c, .slice A' qs.length c'] w fun e w' => e = .returned (.bool (decide (ps = qs))) ∧ Below w.heap.size w w' := by
  have HF := Lib.hid (listEq_len hl)
  have hneq := fun W a b x y => neq_cell W a b x y
  have hne : ((ps.length : Int) == (qs.length : Int)) = false := by rw [beq_eq_false_iff_ne]; omega
  go_enter Tryz.func140, Tryz.ntmps140
  go_wp2_with fail
  go_loopw [5] (fun i wr => ∃ k : Nat, k ≤ ps.length ∧ k ≤ qs.length ∧ i = .int .i64 k ∧ Below w.heap.size w wr) (fun i _ => ps.length - (intOf i).toNat)
  case atStart => exact ⟨0, Nat.zero_le _, Nat.zero_le _, rfl, Below.refl _ _⟩
  case round =>
    obtain ⟨k, hk, hk', rfl, Z1⟩ := hrel
    by_cases hlt : k < ps.length
    · by_cases hlt' : k < qs.length
      · obtain ⟨b, off, rfl, c0, c1⟩ := RdC.at_ (w := wr) (Rd.belo hr Z1) hlt
        obtain ⟨b', off', rfl, d0, d1⟩ := RdC.at_ (w := wr) (Rd.belo hr' Z1) hlt'
        generalize ps[k] = z at c0 c1
        generalize qs[k] = z' at d0 d1
        obtain ⟨x, y⟩ := z
        obtain ⟨x', y'⟩ := z'
        simp only at c0 c1 d0 d1
        cases hb : (x == x' && y == y') with
        | true =>
          go_wp2_with fail
          go_quiet (fail)
          go_wp2_with fail
          go_roundw
          case rel => exact ⟨k + 1, by omega, by omega, by go_num, below_drewN' Z1 _⟩
          case measure => simp [intOf]; omega
        | false =>
          go_wp2_with fail
          go_quiet (fail)
          go_wp2_with fail
          go_ret
          exact ⟨ret_b HF.out.symm, below_drewN' Z1 _⟩
      · go_wp2_with fail
        go_ret
        exact ⟨ret_b HF.out.symm, Z1⟩
    · go_wp2_with fail
      go_ret
      exact ⟨ret_b HF.out.symm, Z1⟩
theorem l8SameA_any (A A' : Option Addr) (c c' : Nat) (ps qs : List Ce) (w : World) (hr : RdC w A ps) (hr' : RdC w A' qs) (hn : ps.length ≤ 1000000) :
    Calls Tryz.prog 140 #[.slice A ps.length c, .slice A' qs.length c'] w fun e w' => e = .returned (.bool (decide (ps = qs))) ∧ Below w.heap.size w w' := by
  by_cases hl : ps.length = qs.length
  · have := l8Same_any A A' ps.length c c' ps qs w hr hr' rfl hl.symm hn
    rw [hl] at this ⊢
    exact this
  · exact l8SameN_any A A' c c' ps qs w hr hr' hl hn
/-- whether two pieces are the same -/
noncomputable def sameW (a b : List Ce) : Bool := pieceB a && pieceB b && decide (firstV a = firstV b)
set_option maxRecDepth 100000 in
set_option maxHeartbeats 2000000 in
theorem sSamePiece_any (A A' : Option Addr) (c c' : Nat) (ps qs : List Ce) (w : World) (hr : RdC w A ps) (hr' : RdC w A' qs) (hn : ps.length ≤ maxLen) (hn' : qs.length ≤ maxLen) (hcap : ps.length ≤ c) (hcap' : qs.length ≤ c') :
    Calls Tryz.prog 71 #[.slice A ps.length c, .slice A' qs.length c'] w fun e w' => e = .returned (.bool (sameW ps qs)) ∧ Below w.heap.size w w' := by
  have VA := Lib.hid (fun (z : World) (R : RdC z A ps) => sPieceValid_any A c ps z R hn hcap)
  have VB := Lib.hid (fun (z : World) (R : RdC z A' qs) => sPieceValid_any A' c' qs z R hn' hcap')
  have FA := Lib.hid (fun (z : World) (R : RdC z A ps) => sPieceFirst_any A c ps z R hn hcap)
  have FB := Lib.hid (fun (z : World) (R : RdC z A' qs) => sPieceFirst_any A' c' qs z R hn' hcap')
  have SF := Lib.hid (fun (z : World) (B B' : Option Addr) (d d' : Nat) (R : RdC z B (firstV ps)) (R' : RdC z B' (firstV qs)) => l8SameA_any B B' d d' (firstV ps) (firstV qs) z R R' (by have := firstV_len_le ps; omega))
  obtain ⟨la, hla⟩ : ∃ la, (firstV ps).length = la := ⟨_, rfl⟩
  obtain ⟨lb, hlb⟩ : ∃ lb, (firstV qs).length = lb := ⟨_, rfl⟩
  rw [hla] at FA SF
  rw [hlb] at FB SF
  clear hla hlb
  have hsv : sameW ps qs = (pieceB ps && pieceB qs && decide (firstV ps = firstV qs)) := rfl
  rw [hsv]
  clear hsv hn hn' hcap hcap'
  generalize decide (firstV ps = firstV qs) = dd at SF ⊢
  have HR := Lib.hid hr
  have HR' := Lib.hid hr'
  clear hr hr'
  cases hp : pieceB ps with
  | false =>
    rw [hp] at VA
    clear hp
    go_enter Tryz.func71, Tryz.ntmps71
    go_wp2_with fail
    refine (VA.out _ HR.out).mono ?_
    rintro e w1 ⟨rfl, b1⟩
    go_wp2_with fail
    go_ret
    exact ⟨rfl, b1⟩
  | true =>
    rw [hp] at VA
    clear hp
    cases hq : pieceB qs with
    | false =>
      rw [hq] at VB
      clear hq
      go_enter Tryz.func71, Tryz.ntmps71
      go_wp2_with fail
      refine (VA.out _ HR.out).mono ?_
      rintro e w1 ⟨rfl, b1⟩
      have r1 := Rd.belo HR'.out b1
      go_wp2_with fail
      refine (VB.out _ r1).mono ?_
      rintro e w2 ⟨rfl, b2⟩
      go_wp2_with fail
      go_ret
      exact ⟨rfl, bl_go b1 b2⟩
    | true =>
      rw [hq] at VB
      clear hq
      go_enter Tryz.func71, Tryz.ntmps71
      go_wp2_with fail
      refine (VA.out _ HR.out).mono ?_
      rintro e w1 ⟨rfl, b1⟩
      have q1 := Rd.belo HR'.out b1
      have r1 := Rd.belo HR.out b1
      go_wp2_with fail
      refine (VB.out _ q1).mono ?_
      rintro e w2 ⟨rfl, b2⟩
      have q2 := Rd.belo q1 b2
      have r2 := Rd.belo r1 b2
      have B2 := bl_go b1 b2
      go_wp2_with fail
      refine (FA.out _ r2).mono ?_
      rintro e w3 ⟨B3, c3, rfl, r3, b3⟩
      have q3 := Rd.belo q2 b3
      have B3' := bl_go B2 b3
      go_wp2_with fail
      refine (FB.out _ q3).mono ?_
      rintro e w4 ⟨B4, c4, rfl, r4, b4⟩
      have B4' := bl_go B3' b4
      go_wp2_with fail
      refine (SF.out _ _ _ _ _ (Rd.belo r3 b4) r4).mono ?_
      rintro e w5 ⟨rfl, b5⟩
      go_wp2_with fail
      go_ret
      exact ⟨ret_b (by simp), bl_go B4' b5⟩
end Go.Proofs.YtejkbjcmndnfeaaGreat

/- Contract: the reference's FillOk. -/
namespace Go.Proofs.YtejkbjcmndnfeaaGreat
open Go.RowKit Go.Sort

theorem sameW_symm (a b : List Ce) : sameW b a = sameV a b := by
  unfold sameV sameW
  rw [Bool.and_comm (pieceB b), show decide (firstV b = firstV a) = decide (firstV a = firstV b) from decide_eq_decide.2 ⟨fun h => h.symm, fun h => h.symm⟩]
theorem l1in_b (n lo hi : Int) (w : World) {v : Bool} (e : inB n lo hi = v) :
    Calls Tryz.prog 70 #[.int .i64 n, .int .i64 lo, .int .i64 hi] w fun e w' => e = .returned (.bool v) ∧ Below w.heap.size w w' := by
  subst e
  exact (l1in_any n lo hi w).mono fun _ _ ⟨h1, h2⟩ => ⟨h1, h2 ▸ Below.refl _ _⟩
theorem OwnC.nilN {w : World} {base : Nat} (hb : base ≤ w.heap.size) : OwnC (w.alloc (.cells #[] 89)) base (.slice (some ⟨w.heap.size, 0, none⟩) 0 0) [] :=
  ⟨_, _, rfl, World.ownsRow_lit w #[] 0 hb (by unfold maxLen; omega) (by simp)⟩
set_option maxRecDepth 100000 in
set_option maxHeartbeats 2000000 in
theorem sFillOk_f (W T : Int) (A A' A9 : Option Addr) (c c' c9 : Nat) (bs : List Bool) (pss : List (List Ce)) (fs : List Int) (w : World) (hr : Rd w A (bs.map .bool)) (hn : bs.length ≤ maxLen) (hr' : RdSS w A' pss) (hn' : pss.length ≤ maxLen) (_hn9 : fs.length ≤ maxLen)
    (h : validB W T bs = false ∨ (decide (pss.length ≤ 6) && piecesB pss) = false ∨ fs.length ≠ bs.length) :
    Calls Tryz.prog 13 #[.agg #[.int .i64 W, .int .i64 T, .slice A bs.length c], .slice A' pss.length c', .slice A9 fs.length c9] w fun e w' => e = .returned (.bool (fillOkB W T bs pss fs)) ∧ Below w.heap.size w w' := by
  rw [fillOkB_f h]
  have X0 := C3.new w (.int .i64 W) (.int .i64 T) (.slice A bs.length c) 25
  have Z0 := bl_alloc (Below.refl w.heap.size w) (.cells #[.int .i64 W, .int .i64 T, .slice A bs.length c] 25)
  obtain ⟨x0, x1, x2⟩ := id X0
  cases hv : validB W T bs with
  | false =>
    have HV := Lib.hid hv
    clear hv h
    go_enter Tryz.func13, Tryz.ntmps13
    go_wp2_with fail
    refine (sRegionValid_any W T A c bs _ (hr.alloc _) hn).mono ?_
    rintro e w1 ⟨rfl, b1⟩
    rw [HV.out]
    have Z1 := bl_go Z0 b1
    clear x0 x1 x2
    obtain ⟨x0, x1, x2⟩ := X0.belo b1
    go_wp2_with fail
    go_ret
    exact ⟨rfl, Z1⟩
  | true =>
    have HV := Lib.hid hv
    clear hv
    cases hp : (decide (pss.length ≤ 6) && piecesB pss) with
    | false =>
      have HP := Lib.hid hp
      clear hp h
      go_enter Tryz.func13, Tryz.ntmps13
      go_wp2_with fail
      refine (sRegionValid_any W T A c bs _ (hr.alloc _) hn).mono ?_
      rintro e w1 ⟨rfl, b1⟩
      rw [HV.out]
      have Z1 := bl_go Z0 b1
      have R1 := hr'.belo Z1
      have X1 := X0.belo b1
      clear x0 x1 x2 X0 b1 Z0
      obtain ⟨x0, x1, x2⟩ := id X1
      go_wp2_with fail
      refine (sPiecesValid_any _ _ _ _ R1 hn').mono ?_
      rintro e w2 ⟨rfl, b2⟩
      rw [HP.out]
      have Z2 := bl_go Z1 b2
      clear x0 x1 x2
      obtain ⟨x0, x1, x2⟩ := X1.belo b2
      go_wp2_with fail
      go_ret
      exact ⟨rfl, Z2⟩
    | true =>
      have HP := Lib.hid hp
      have hne : fs.length ≠ bs.length := by
        rcases h with h | h | h
        · rw [HV.out] at h; cases h
        · rw [hp] at h; cases h
        · exact h
      have hbe : ((fs.length : Int) == (bs.length : Int)) = false := by rw [beq_eq_false_iff_ne]; omega
      clear hp h hne
      go_enter Tryz.func13, Tryz.ntmps13
      go_wp2_with fail
      refine (sRegionValid_any W T A c bs _ (hr.alloc _) hn).mono ?_
      rintro e w1 ⟨rfl, b1⟩
      rw [HV.out]
      have Z1 := bl_go Z0 b1
      have R1 := hr'.belo Z1
      have X1 := X0.belo b1
      clear x0 x1 x2 X0 b1 Z0
      obtain ⟨x0, x1, x2⟩ := id X1
      go_wp2_with fail
      refine (sPiecesValid_any _ _ _ _ R1 hn').mono ?_
      rintro e w2 ⟨rfl, b2⟩
      rw [HP.out]
      have Z2 := bl_go Z1 b2
      clear x0 x1 x2
      obtain ⟨x0, x1, x2⟩ := X1.belo b2
      go_wp2_with fail
      go_ret
      exact ⟨rfl, Z2⟩
set_option maxRecDepth 100000 in
set_option maxHeartbeats 8000000 in
theorem sFillOk_t (W T : Int) (A A' A9 : Option Addr) (c c' c9 : Nat) (bs : List Bool) (pss : List (List Ce)) (fs : List Int) (w : World) (hr : Rd w A (bs.map .bool)) (hn : bs.length ≤ maxLen) (hr' : RdSS w A' pss) (hn' : pss.length ≤ maxLen) (hr9 : Rd w A9 (fs.map (.int .i64)))
    (hv : validB W T bs = true) (hp : (decide (pss.length ≤ 6) && piecesB pss) = true) (hl : fs.length = bs.length) :
    Calls Tryz.prog 13 #[.agg #[.int .i64 W, .int .i64 T, .slice A bs.length c], .slice A' pss.length c', .slice A9 bs.length c9] w fun e w' => e = .returned (.bool (fillB W bs pss fs)) ∧ Below w.heap.size w w' := by
  have X0 := C3.new w (.int .i64 W) (.int .i64 T) (.slice A bs.length c) 25
  have Z0 := bl_alloc (Below.refl w.heap.size w) (.cells #[.int .i64 W, .int .i64 T, .slice A bs.length c] 25)
  obtain ⟨x0, x1, x2⟩ := id X0
  have HV := Lib.hid hv
  have HP := Lib.hid hp
  have HL := Lib.hid hl
  have m6 : pss.length ≤ 6 := by rw [Bool.and_eq_true, decide_eq_true_eq] at hp; exact hp.1
  obtain ⟨⟨q1, q6⟩, ⟨t1, t6⟩, hlen, -⟩ := validB_iff.1 hv
  have n36 : bs.length ≤ 36 := by have := mul_bd q1 q6 t1 t6; omega
  have hbe : ((bs.length : Int) == (bs.length : Int)) = true := by simp
  clear hv hp hl hlen t1 t6
  go_enter Tryz.func13, Tryz.ntmps13
  go_wp2_with fail
  refine (sRegionValid_any W T A c bs _ (hr.alloc _) hn).mono ?_
  rintro e w1 ⟨rfl, b1⟩
  rw [HV.out]
  have Z1 := bl_go Z0 b1
  have R1 := hr'.belo Z1
  have X1 := X0.belo b1
  clear x0 x1 x2 X0 b1 Z0
  obtain ⟨x0, x1, x2⟩ := id X1
  go_wp2_with fail
  refine (sPiecesValid_any _ _ _ _ R1 hn').mono ?_
  rintro e w2 ⟨rfl, b2⟩
  rw [HP.out]
  have Z2 := bl_go Z1 b2
  have X2 := X1.belo b2
  clear x0 x1 x2 X1 Z1 R1 b2
  obtain ⟨x0, x1, x2⟩ := id X2
  have r2 := hr.belo Z2
  have r2' := hr'.belo Z2
  have r29 := hr9.belo Z2
  clear hr hr' hr9
  go_wp2_with fail
  clear x0 x1 x2
  go_loopw [7] (fun i wr => ∃ k : Nat, k ≤ bs.length ∧ i = .int .i64 k ∧ Hid (∀ j (h : j < bs.length) (h2 : j < fs.length), j < k → cellOk pss.length bs[j] fs[j]) ∧ Below w2.heap.size w2 wr) (fun i _ => bs.length - (intOf i).toNat)
  case atStart => exact ⟨0, Nat.zero_le _, rfl, fun j _ _ h => by omega, Below.refl _ _⟩
  case round =>
    obtain ⟨k, hk, rfl, HK, Z4⟩ := hrel
    by_cases hlt : k < bs.length
    · have kf : k < fs.length := by rw [HL.out]; exact hlt
      have X4 := X2.belo Z4
      obtain ⟨b, off, rfl, cb⟩ := (r2.belo Z4).atEM hlt
      obtain ⟨b9, off9, rfl, cf⟩ := (r29.belo Z4).atEM kf
      obtain ⟨f, hf⟩ : ∃ f, fs[k] = f := ⟨_, rfl⟩
      obtain ⟨bb, hb⟩ : ∃ bb, bs[k] = bb := ⟨_, rfl⟩
      rw [hf] at cf
      rw [hb] at cb
      have HF := Lib.hid hf
      have HB := Lib.hid hb
      clear hf hb
      have gs := World.block_lt_of_cell? wr _ cb
      have gt := World.block_lt_of_cell? wr _ cf
      simp only at gs gt
      have L0 : ∀ z : BW wr, z.wo.cell? ⟨b, off + k, none⟩ = some (.bool bb) := fun z => z.cell gs cb
      have L1 : ∀ z : BW wr, z.wo.cell? ⟨b9, off9 + k, none⟩ = some (.int .i64 f) := fun z => z.cell gt cf
      have L2 : ∀ z : BW wr, z.wo.cell? ⟨w.heap.size, 2, none⟩ = some (.slice (some ⟨b, off, none⟩) bs.length c) := fun z => (X4.belo z.ok).2.2
      cases hin : inB f (-1) ((pss.length : Int) - 1) with
      | false =>
        have HNO := Lib.hid (fillB_f1 (W := W) (bs := bs) (pss := pss) (fs := fs) k hlt (by rw [HL.out]; exact hlt) (by
          rw [HB.out, HF.out]; intro h
          unfold inB at hin
          simp only [decide_eq_false_iff_not] at hin
          cases bb with
          | true => have := h.1 rfl; omega
          | false => have := h.2 rfl; omega))
        go_wp2_with fail
        (refine region_bw (by kernel_rfl) (by kernel_rfl) ?_; (repeat (first | go_big_quiet_skip | (go_big_quiet_want; go_big_quiet_op; first | go_big_quiet_on | (refine ⟨.bool false, fun zz => ?_, ?_⟩; (go_at_call 70; exact zz.on (l1in_b _ _ _ _ hin)); go_big_quiet_on)))); refine wpQuiet_nil ?_; intro wz hw'; obtain ⟨zw, hw''⟩ := hw'; subst hw'')
        go_wp2
        go_ret
        exact ⟨ret_b HNO.out.symm, bl_go Z2 (bl_go Z4 zw.ok)⟩
      | true =>
        have hin' := hin
        unfold inB at hin'
        simp only [decide_eq_true_eq] at hin'
        obtain ⟨i1, i2⟩ := hin'
        cases hge : decide (0 ≤ f) with
        | true =>
          have hg0 : 0 ≤ f := of_decide_eq_true hge
          cases bb with
          | true =>
            have HOK := Lib.hid (show cellOk pss.length bs[k] fs[k] by rw [HB.out, HF.out]; exact ⟨fun _ => ⟨hg0, i2⟩, fun e => by cases e⟩)
            clear hg0 i1 i2
            go_wp2_with fail
            (refine region_bw (by kernel_rfl) (by kernel_rfl) ?_; (repeat (first | go_big_quiet_skip | (go_big_quiet_want; go_big_quiet_op; first | go_big_quiet_on | (refine ⟨.bool true, fun zz => ?_, ?_⟩; (go_at_call 70; exact zz.on (l1in_b _ _ _ _ hin)); go_big_quiet_on)))); refine wpQuiet_nil ?_; intro wz hw'; obtain ⟨zw, hw''⟩ := hw'; subst hw'')
            go_wp2
            go_roundw
            case rel =>
              refine ⟨k + 1, by omega, by go_num, fun j h h2 h3 => ?_, bl_go Z4 zw.ok⟩
              rcases Nat.lt_or_ge j k with h4 | h4
              · exact HK.out j h h2 h4
              · obtain rfl : j = k := by omega
                exact HOK.out
            case measure => simp [intOf]; omega
          | false =>
            have HNO := Lib.hid (fillB_f1 (W := W) (bs := bs) (pss := pss) (fs := fs) k hlt (by rw [HL.out]; exact hlt) (by rw [HB.out, HF.out]; intro h; have := h.2 rfl; omega))
            clear hg0 i1 i2
            go_wp2_with fail
            (refine region_bw (by kernel_rfl) (by kernel_rfl) ?_; (repeat (first | go_big_quiet_skip | (go_big_quiet_want; go_big_quiet_op; first | go_big_quiet_on | (refine ⟨.bool true, fun zz => ?_, ?_⟩; (go_at_call 70; exact zz.on (l1in_b _ _ _ _ hin)); go_big_quiet_on)))); refine wpQuiet_nil ?_; intro wz hw'; obtain ⟨zw, hw''⟩ := hw'; subst hw'')
            go_wp2
            go_ret
            exact ⟨ret_b HNO.out.symm, bl_go Z2 (bl_go Z4 zw.ok)⟩
        | false =>
          have hg0 : f = -1 := by simp at hge; omega
          cases bb with
          | false =>
            have HOK := Lib.hid (show cellOk pss.length bs[k] fs[k] by rw [HB.out, HF.out]; exact ⟨fun e => (by cases e), fun _ => hg0⟩)
            clear hg0 i1 i2
            go_wp2_with fail
            (refine region_bw (by kernel_rfl) (by kernel_rfl) ?_; (repeat (first | go_big_quiet_skip | (go_big_quiet_want; go_big_quiet_op; first | go_big_quiet_on | (refine ⟨.bool true, fun zz => ?_, ?_⟩; (go_at_call 70; exact zz.on (l1in_b _ _ _ _ hin)); go_big_quiet_on)))); refine wpQuiet_nil ?_; intro wz hw'; obtain ⟨zw, hw''⟩ := hw'; subst hw'')
            go_wp2
            go_roundw
            case rel =>
              refine ⟨k + 1, by omega, by go_num, fun j h h2 h3 => ?_, bl_go Z4 zw.ok⟩
              rcases Nat.lt_or_ge j k with h4 | h4
              · exact HK.out j h h2 h4
              · obtain rfl : j = k := by omega
                exact HOK.out
            case measure => simp [intOf]; omega
          | true =>
            have HNO := Lib.hid (fillB_f1 (W := W) (bs := bs) (pss := pss) (fs := fs) k hlt (by rw [HL.out]; exact hlt) (by rw [HB.out, HF.out]; intro h; have := (h.1 rfl).1; omega))
            clear hg0 i1 i2
            go_wp2_with fail
            (refine region_bw (by kernel_rfl) (by kernel_rfl) ?_; (repeat (first | go_big_quiet_skip | (go_big_quiet_want; go_big_quiet_op; first | go_big_quiet_on | (refine ⟨.bool true, fun zz => ?_, ?_⟩; (go_at_call 70; exact zz.on (l1in_b _ _ _ _ hin)); go_big_quiet_on)))); refine wpQuiet_nil ?_; intro wz hw'; obtain ⟨zw, hw''⟩ := hw'; subst hw'')
            go_wp2
            go_ret
            exact ⟨ret_b HNO.out.symm, bl_go Z2 (bl_go Z4 zw.ok)⟩
    · obtain rfl : k = bs.length := by omega
      have HD := Lib.hid (show fillD pss.length bs fs from fun j h h2 => HK.out j h h2 h)
      have X4 := X2.belo Z4
      have r4 := r2'.belo Z4
      have r49 := r29.belo Z4
      have Z5 := bl_go Z2 Z4
      clear HK hk r2 r2' r29 X2 Z2 Z4
      obtain ⟨w4, hw4⟩ : ∃ w4 : World, w4 = wr := ⟨_, rfl⟩
      subst hw4
      go_wp2_with fail
      go_loopw [8] (fun i wr => ∃ k : Nat, k ≤ pss.length ∧ i = .int .i64 k ∧ Hid (∀ j (h : j < pss.length), j < k → sameV pss[j] (cellsT W fs j fs.length) = true) ∧ Below w4.heap.size w4 wr) (fun i _ => pss.length - (intOf i).toNat)
      case atStart => exact ⟨0, Nat.zero_le _, rfl, fun j _ h => by omega, Below.refl _ _⟩
      case round =>
        obtain ⟨k, hk, rfl, HK, Z6⟩ := hrel
        by_cases hlt : k < pss.length
        · have X6 := X4.belo Z6
          have r6 := r4.belo Z6
          have r69 := r49.belo Z6
          have Z7 := bl_go Z5 Z6
          have O7 : OwnC (wr.alloc (.cells #[] 89)) wr.heap.size (.slice (some ⟨wr.heap.size, 0, none⟩) 0 0) (cellsT W fs k 0) := OwnC.nilN (Nat.le_refl _)
          obtain ⟨w6, hw6⟩ : ∃ w6 : World, w6 = wr := ⟨_, rfl⟩
          subst hw6
          have Z8 := bl_alloc (Below.refl w6.heap.size w6) (.cells #[] 89)
          go_wp2_with fail
          go_loopw [9, 10] (fun out i wr => ∃ j : Nat, j ≤ bs.length ∧ i = .int .i64 j ∧ OwnC wr w6.heap.size out (cellsT W fs k j) ∧ Below w6.heap.size w6 wr) (fun _ i _ => bs.length - (intOf i).toNat)
          case atStart => exact ⟨0, Nat.zero_le _, rfl, O7, Z8⟩
          case round =>
            clear O7 Z8
            obtain ⟨j, hj, rfl, O9, Z9⟩ := hrel
            by_cases hjl : j < bs.length
            · have jf : j < fs.length := by rw [HL.out]; exact hjl
              obtain ⟨x0, x1, x2⟩ := X6.belo Z9
              obtain ⟨b9, off9, rfl, cf⟩ := (r69.belo Z9).atEM jf
              obtain ⟨f, hf⟩ : ∃ f, fs[j] = f := ⟨_, rfl⟩
              rw [hf] at cf
              have HFQ := Lib.hid (show fs[j]? = some f by rw [List.getElem?_eq_getElem jf, hf])
              clear hf
              cases hq : (f == (k : Int)) with
              | false =>
                go_wp2_with fail
                go_roundw
                case rel => exact ⟨j + 1, by omega, by go_num, by rw [cellsT_no (by rw [HFQ.out]; intro e; injection e with e; rw [e] at hq; simp at hq)]; exact O9, Z9⟩
                case measure => simp [intOf]; omega
              | true =>
                have hcl := cellsT_len W fs k j
                have HY := Lib.hid (cellsT_yes (W := W) (fs := fs) (n := (k : Int)) (k := j) (by rw [HFQ.out]; simpa using hq))
                have hw0 : (W == 0) = false := by rw [beq_eq_false_iff_ne]; omega
                have hw1 : ¬ W = 0 := by omega
                obtain ⟨y1, y2, y3, y4⟩ := xy_bd (c := (j : Int)) q1 q6 (by omega) (by omega)
                have ht : ((j : Int)).tmod W = (j : Int) % W := Int.tmod_eq_emod_of_nonneg (by omega)
                have hd : ((j : Int)).tdiv W = (j : Int) / W := Int.tdiv_eq_ediv_of_nonneg (by omega)
                go_wp2_with fail
                obtain ⟨A0, c0, rfl, -⟩ := id O9
                have wy : IntKind.i64.wrap ((j : Int) / W) = (j : Int) / W := IntWalk.i64_in _ (by omega)
                have hcl2 : (cellsT W fs k j).length ≤ 1000000000000 := by omega
                have O9d : OwnC (wr.alloc (.cells #[.int .i64 ((j : Int) % W), .int .i64 ((j : Int) / W)] 89)).drew w6.heap.size _ (cellsT W fs k j) := O9.alloc _
                have Z9d : Below w6.heap.size w6 (wr.alloc (.cells #[.int .i64 ((j : Int) % W), .int .i64 ((j : Int) / W)] 89)).drew := (bl_alloc Z9 _).drew
                have hz9 := Z9d.size
                have e0 : (wr.alloc (.cells #[.int .i64 ((j : Int) % W), .int .i64 ((j : Int) / W)] 89)).drew.cell? ⟨wr.heap.size, 0, none⟩ = some (.int .i64 ((j : Int) % W)) := cell_of_row _ _ _ _ _ _ (heap_alloc_new wr _)
                have e1 : (wr.alloc (.cells #[.int .i64 ((j : Int) % W), .int .i64 ((j : Int) / W)] 89)).drew.cell? ⟨wr.heap.size, 1, none⟩ = some (.int .i64 ((j : Int) / W)) := cell_of_row _ _ _ _ _ _ (heap_alloc_new wr _)
                go_region_held3 (fun w' => w'.cell? ⟨w.heap.size, 0, none⟩ = some (.int .i64 W))
                  (first | exact y0 | exact x0 | go_keep)
                  ((refine step_app_cell _ (by rfl) _ _ (by rfl) w6.heap.size _ (cellsT W fs k j) (by rfl) O9d ((j : Int) % W) ((j : Int) / W) wr.heap.size (by rfl) e0 e1 hcl2 hz9 ?_; intro h7 c7 w7 o7 g7 _; have b7 := Z9d.grown g7 Z9d.size (fun kk hkk => own_base_lt O9d kk hkk); have y0 := (X6.belo b7).1))
                go_wp2_with fail
                go_roundw
                case rel => exact ⟨j + 1, by omega, by go_num, by rw [HY.out]; exact o7, b7⟩
                case measure => simp [intOf]; omega
            · obtain rfl : j = bs.length := by omega
              obtain ⟨A8, c8, rfl, -⟩ := id O9
              have R8 := O9.rd
              have cap8 := OwnC.cap O9
              have hcl := cellsT_len W fs k bs.length
              obtain ⟨b, off, A3, c3, rfl, h1, h2, h3, h4⟩ := (r6.belo Z9) k hlt
              obtain ⟨ps, hps⟩ : ∃ ps, pss[k] = ps := ⟨_, rfl⟩
              have HPS := Lib.hid hps
              rw [hps] at h1 h2 h3 h4
              clear hps
              have CC := Lib.hid (fun (z : World) (R : RdC z A8 (cellsT W fs k bs.length)) (R' : RdC z A3 ps) => sSamePiece_any A8 A3 c8 c3 (cellsT W fs k bs.length) ps z R R' (by unfold maxLen; omega) h3 cap8 h2)
              have SV := Lib.hid (show sameW (cellsT W fs k bs.length) ps = sameV pss[k] (cellsT W fs k fs.length) by rw [sameW_symm, HPS.out, HL.out])
              cases hs : sameW (cellsT W fs k bs.length) ps with
              | true =>
                have HS := Lib.hid hs
                clear hs h2 h3 cap8 O9 hcl
                go_wp2_with fail
                refine (CC.out _ R8 h4).mono ?_
                rintro e w9 ⟨rfl, b9⟩
                rw [HS.out]
                go_wp2_with fail
                go_roundw
                case rel =>
                  refine ⟨k + 1, by omega, by go_num, fun j h h5 => ?_, bl_go Z6 (bl_go Z9 b9)⟩
                  rcases Nat.lt_or_ge j k with h6 | h6
                  · exact HK.out j h h6
                  · obtain rfl : j = k := by omega
                    rw [← SV.out, HS.out]
                case measure => simp [intOf]; omega
              | false =>
                have HS := Lib.hid hs
                have HNO := Lib.hid (fillB_f2 (W := W) (bs := bs) (pss := pss) (fs := fs) k hlt (by rw [← SV.out, hs]))
                clear hs h2 h3 cap8 O9 hcl
                go_wp2_with fail
                refine (CC.out _ R8 h4).mono ?_
                rintro e w9 ⟨rfl, b9⟩
                rw [HS.out]
                go_wp2_with fail
                go_ret
                exact ⟨ret_b HNO.out.symm, bl_go Z7 (bl_go Z9 b9)⟩
        · obtain rfl : k = pss.length := by omega
          have HB := Lib.hid (fillB_t (W := W) (bs := bs) (pss := pss) (fs := fs) HD.out (fun n h => HK.out n h h))
          go_wp2_with fail
          go_ret
          exact ⟨ret_b HB.out.symm, bl_go Z5 Z6⟩
theorem sFillOk_any (W T : Int) (A A' A9 : Option Addr) (c c' c9 : Nat) (bs : List Bool) (pss : List (List Ce)) (fs : List Int) (w : World) (hr : Rd w A (bs.map .bool)) (hn : bs.length ≤ maxLen) (hr' : RdSS w A' pss) (hn' : pss.length ≤ maxLen) (hr9 : Rd w A9 (fs.map (.int .i64))) (hn9 : fs.length ≤ maxLen) :
    Calls Tryz.prog 13 #[.agg #[.int .i64 W, .int .i64 T, .slice A bs.length c], .slice A' pss.length c', .slice A9 fs.length c9] w fun e w' => e = .returned (.bool (fillOkB W T bs pss fs)) ∧ Below w.heap.size w w' := by
  by_cases h : validB W T bs = false ∨ (decide (pss.length ≤ 6) && piecesB pss) = false ∨ fs.length ≠ bs.length
  · exact sFillOk_f W T A A' A9 c c' c9 bs pss fs w hr hn hr' hn' hn9 h
  · have h1 : validB W T bs = true := by simpa using fun e => h (.inl e)
    have h2 : (decide (pss.length ≤ 6) && piecesB pss) = true := by
      cases e : (decide (pss.length ≤ 6) && piecesB pss) with
      | true => rfl
      | false => exact absurd (.inr (.inl e)) h
    have h3 : fs.length = bs.length := Classical.byContradiction fun e => h (.inr (.inr e))
    rw [fillOkB_t h1 h2 h3, h3]
    exact sFillOk_t W T A A' A9 c c' c9 bs pss fs w hr hn hr' hn' hr9 h1 h2 h3
end Go.Proofs.YtejkbjcmndnfeaaGreat

/- The walk of the law FnFillOk. -/
namespace Go.Proofs.YtejkbjcmndnfeaaGreat
open Go.RowKit Go.Sort

theorem sum_succ {pss : List (List Ce)} {k : Nat} (h : k < pss.length) : ((pss.take (k + 1)).map List.length).sum = ((pss.take k).map List.length).sum + pss[k].length := by
  rw [List.take_add_one, List.getElem?_eq_getElem h, List.map_append, List.sum_append]
  simp only [Option.toList_some, List.map_cons, List.map_nil, List.sum_cons, List.sum_nil, Nat.add_zero]
theorem sum_bd {pss : List (List Ce)} (h : ∀ k, k < pss.length → (pss.getD k []).length ≤ 5) : ∀ k, k ≤ pss.length → ((pss.take k).map List.length).sum ≤ 5 * k
  | 0, _ => by simp
  | k + 1, hk => by
    rw [sum_succ (by omega)]
    have h1 := sum_bd h k (by omega)
    have h2 := h k (by omega)
    rw [List.getD_eq_getElem?_getD, List.getElem?_eq_getElem (by omega)] at h2
    simp only [Option.getD_some] at h2
    omega
theorem rdLL_of {w : World} {lo : Nat} {A : Option Addr} {xs : List Value} {L : List (List Int)} (hr : Rd w A xs) (h : RowsI w lo xs L) (hb : ∀ f ∈ L, f.length ≤ 1000000) : RdLL w A L :=
  ⟨xs, hr, h.1, fun k hk hx => by
    obtain ⟨gk, nk, a1, a2, a3, -⟩ := h.2 k hk
    rw [List.getElem?_eq_getElem hx] at a1
    injection a1 with a1
    exact ⟨_, _, by rw [a1, a2], by omega, hb _ (List.getElem_mem hk), a3.rd⟩⟩
theorem fillsW_each {W T : Int} {bs : List Bool} {pss : List (List Ce)} : (fillsW W T bs pss).length ≤ 12230590464 ∧ ∀ f ∈ fillsW W T bs pss, f.length ≤ 36 := by
  unfold fillsW
  split
  · rename_i h
    obtain ⟨h1, h2⟩ := h
    obtain ⟨P6, hok⟩ := pieces_ok h2
    obtain ⟨⟨q1, q6⟩, ⟨t1, t6⟩, hlen, -⟩ := validB_iff.1 h1
    have hf : FldF W T bs.length := ⟨q1, q6, t1, t6, hlen⟩
    refine ⟨fills_max W T bs pss true P6 P6 _ _, fun f hfm => ?_⟩
    have := ((fillsV_mem hf hok f).1 hfm).1
    have := hf.bd
    omega
  · simp
/-- what a good filling has -/
theorem fillOk_has {W T : Int} {bs : List Bool} {pss : List (List Ce)} {fs : List Int} (h : fillOkB W T bs pss fs = true) :
    (∀ k, k < pss.length → (pss.getD k []).length ≤ 5) ∧ fs ∈ fillsW W T bs pss ∧ (((pss.map List.length).sum : Nat) : Int) = cellsMany W T bs := by
  unfold fillOkB at h
  rw [Bool.and_eq_true, Bool.and_eq_true, Bool.and_eq_true] at h
  obtain ⟨⟨⟨h1, h2⟩, h3⟩, h4⟩ := h
  have h3 := of_decide_eq_true h3
  obtain ⟨P6, hok⟩ := pieces_ok h2
  obtain ⟨⟨q1, q6⟩, ⟨t1, t6⟩, hlen, -⟩ := validB_iff.1 h1
  have hf : FldF W T bs.length := ⟨q1, q6, t1, t6, hlen⟩
  have hm : fs ∈ fillsV W T bs pss := (fillsV_mem hf hok fs).2 ⟨h3, h4⟩
  refine ⟨fun k hk => (hok k hk).1.2, ?_, ?_⟩
  · rw [fillsW_t h1 h2]
    exact hm
  · rw [fillsV_sum hf hm]
    unfold cellsMany
    rw [if_pos h1]
theorem mem_take_succ {V : List (List Int)} {fs : List Int} {k : Nat} (h : k < V.length) : decide (fs ∈ V.take (k + 1)) = (decide (fs ∈ V.take k) || decide (V[k] = fs)) := by
  rw [List.take_add_one, List.getElem?_eq_getElem h, Bool.eq_iff_iff]
  simp only [decide_eq_true_eq, Bool.or_eq_true, List.mem_append, Option.mem_toList, Option.some.injEq]
set_option maxRecDepth 100000 in
set_option maxHeartbeats 4000000 in
theorem fnFillOk_walk {w0 : World} (A : Option Addr) (c : Nat) (bs : List Int) (hcap : bs.length ≤ c) (hm : bs.length ≤ maxLen) (hr : Rd w0 A (bs.map (.int .u8))) (hw : ∀ n ∈ bs, 0 ≤ n ∧ n ≤ 255) :
    Calls Tryz.prog 3 #[.slice A bs.length c] w0 fun e w' => e = .returned (.bool true) ∧ Below w0.heap.size w0 w' := by
  have HW := Lib.hid hw
  clear hw
  unfold maxLen at hm
  by_cases hn : bs.length ≤ 1048576
  · have hg : decide ((1048576 : Int) < (bs.length : Int)) = false := by simp; omega
    go_enter Tryz.func3, Tryz.ntmps3
    go_wp2_with fail
    refine (drawFillOk_any A c bs _ hr HW.out hn hcap).mono ?_
    rintro e w1 ⟨W, T, B, cB, xs, P, cP, pss, F, cF, fs, rfl, l1, l2, l3, R1, P1, F1, B1⟩
    clear hg hn hm hr HW hcap
    have X0 := C3.new w1 (.int .i64 W) (.int .i64 T) (.slice B xs.length cB) 25
    have bz := bl_alloc (Below.refl w1.heap.size w1) (.cells #[.int .i64 W, .int .i64 T, .slice B xs.length cB] 25)
    have R2 := R1.belo bz
    have P2 := P1.belo bz
    have F2 := F1.belo bz
    have B2 := bl_go B1 bz
    have xm : xs.length ≤ maxLen := by unfold maxLen; omega
    have pm : pss.length ≤ maxLen := by unfold maxLen; omega
    have fm : fs.length ≤ maxLen := by unfold maxLen; omega
    have hs2 : w1.heap.size < (w1.alloc (.cells #[.int .i64 W, .int .i64 T, .slice B xs.length cB] 25)).heap.size := X0.lt
    obtain ⟨x0, x1, x2⟩ := id X0
    clear R1 P1 F1 bz
    have CI := Lib.hid (fun (z : World) (R : Rd z B (xs.map .bool)) (RP : RdSS z P pss) (RF : Rd z F (fs.map (.int .i64))) => iFillOk_any W T B P F cB cP cF xs pss fs z R xm RP pm RF fm)
    have CS := Lib.hid (fun (z : World) (R : Rd z B (xs.map .bool)) (RP : RdSS z P pss) (RF : Rd z F (fs.map (.int .i64))) => sFillOk_any W T B P F cB cP cF xs pss fs z R xm RP pm RF fm)
    have HV := Lib.hid (fillsW_each (W := W) (T := T) (bs := xs) (pss := pss))
    have CA := Lib.hid (fun (z : World) (R : Rd z B (xs.map .bool)) (RP : RdSS z P pss) => iFillsAll_any W T B P cB cP xs pss z R xm RP pm)
    have CC := Lib.hid (fun (z : World) (R : Rd z B (xs.map .bool)) => iCellsMany_any W T B cB xs z R xm)
    have HH := Lib.hid (fillOk_has (W := W) (T := T) (bs := xs) (pss := pss) (fs := fs))
    generalize fillOkB W T xs pss fs = ok at CI CS HH
    have hok : (ok != ok) = false := by cases ok <;> rfl
    generalize fillsW W T xs pss = V at CA HV HH
    generalize cellsMany W T xs = M at CC HH
    go_wp2_with fail
    refine (CI.out _ R2 P2 F2).mono ?_
    rintro e w3 ⟨rfl, b3⟩
    have X3 := X0.belo b3
    have R3 := R2.belo b3
    have P3 := P2.belo b3
    have F3 := F2.belo b3
    have B3 := bl_go B2 b3
    obtain ⟨x0, x1, x2⟩ := id X3
    clear X0 R2 P2 F2 B2 b3 hs2
    go_wp2_with fail
    refine (CS.out _ R3 P3 F3).mono ?_
    rintro e w4 ⟨rfl, b4⟩
    have X4 := X3.belo b4
    have R4 := R3.belo b4
    have P4 := P3.belo b4
    have F4 := F3.belo b4
    have B4 := bl_go B3 b4
    clear X3 R3 P3 F3 B3 b4 x0 x1 x2 CI CS
    cases ok with
    | false =>
      go_wp2_with fail
      refine (alive_any _).mono ?_
      rintro e w5 ⟨rfl, b5⟩
      go_wp2_with fail
      go_ret
      exact ⟨rfl, bl_go B4 b5⟩
    | true =>
      obtain ⟨h5, hV, hsum⟩ := HH.out rfl
      have HS := Lib.hid hsum
      have HVM := Lib.hid hV
      have H5 := Lib.hid h5
      clear HH hsum hV h5
      go_wp2_with fail
      go_loopw [7, 8] (fun s i wr => ∃ k : Nat, k ≤ pss.length ∧ i = .int .i64 k ∧ s = .int .i64 (((pss.take k).map List.length).sum : Nat) ∧ wr = w4) (fun _ i _ => pss.length - (intOf i).toNat)
      case atStart => exact ⟨0, Nat.zero_le _, rfl, by simp, rfl⟩
      case round =>
        obtain ⟨k, hk, rfl, rfl, rfl⟩ := hrel
        by_cases hlt : k < pss.length
        · obtain ⟨b, off, A1, c1, rfl, h1, -, h3, -⟩ := P4 k hlt
          have hbd := sum_bd H5.out k hk
          have HSU := Lib.hid (sum_succ hlt)
          have hl5 : pss[k].length ≤ 5 := by
            have := H5.out k hlt
            rw [List.getD_eq_getElem?_getD, List.getElem?_eq_getElem hlt] at this
            simpa using this
          generalize pss[k].length = n1 at h1 h3 HSU hl5
          generalize ((pss.take k).map List.length).sum = s1 at hbd HSU ⊢
          go_wp2_with fail
          go_roundw
          case rel => exact ⟨k + 1, by omega, by go_num, by rw [HSU.out]; go_num, trivial⟩
          case measure => simp [intOf]; omega
        · obtain rfl : k = pss.length := by omega
          rw [List.take_length]
          obtain ⟨S, hS⟩ : ∃ S, (pss.map List.length).sum = S := ⟨_, rfl⟩
          have HS2 : Hid ((S : Int) = M) := Lib.hid (by rw [← hS]; exact HS.out)
          rw [hS]
          clear hS HS hlt
          obtain ⟨x0, x1, x2⟩ := id X4
          go_wp2_with fail
          refine (CA.out _ R4 P4).mono ?_
          rintro e w5 ⟨A5, c5, xr, rfl, hc5, V5, -, I5, -, b5⟩
          have V6 : RdLL w5 A5 V := rdLL_of V5 I5 (fun f hf => by have := HV.out.2 f hf; omega)
          have X5 := X4.belo b5
          have R5 := R4.belo b5
          have F5 := F4.belo b5
          have B5 := bl_go B4 b5
          have hVm : V.length ≤ maxLen := by have := HV.out.1; unfold maxLen; omega
          have hVi : V.length ≤ 12230590464 := HV.out.1
          clear X4 R4 P4 F4 B4 b5 V5 I5 x0 x1 x2 CA
          go_wp2_with fail
          go_loopw [10, 11] (fun fd i wr => ∃ k : Nat, k ≤ V.length ∧ i = .int .i64 k ∧ fd = .bool (decide (fs ∈ V.take k)) ∧ Below w5.heap.size w5 wr) (fun _ i _ => V.length - (intOf i).toNat)
          case atStart => exact ⟨0, Nat.zero_le _, rfl, by simp, Below.refl _ _⟩
          case round =>
            obtain ⟨k, hk, rfl, rfl, b6⟩ := hrel
            by_cases hlt : k < V.length
            · obtain ⟨b, off, A1, c1, rfl, h1, -, h3, h4⟩ := (V6.belo b6).at_ hlt
              have F6 := F5.belo b6
              have HMS := Lib.hid (mem_take_succ (fs := fs) hlt)
              have CE := Lib.hid (sameInts_any A1 F c1 cF V[k].length fs.length V[k] fs wr h4 F6 rfl rfl (by unfold maxLen; omega) fm)
              generalize decide (V[k] = fs) = eq at HMS CE
              generalize V[k].length = n1 at h1 h3 CE
              generalize decide (fs ∈ V.take k) = fd at HMS ⊢
              clear h4
              cases fd with
              | true =>
                go_wp2_with fail
                go_roundw
                case rel => exact ⟨k + 1, by omega, by go_num, by rw [HMS.out]; rfl, b6⟩
                case measure => simp [intOf]; omega
              | false =>
                go_wp2_with fail
                refine CE.out.mono ?_
                rintro e w7 ⟨rfl, b7⟩
                go_wp2_with fail
                go_roundw
                case rel => exact ⟨k + 1, by omega, by go_num, by rw [HMS.out]; rfl, bl_go b6 b7⟩
                case measure => simp [intOf]; omega
            · obtain rfl : k = V.length := by omega
              rw [List.take_length, show decide (fs ∈ V) = true from decide_eq_true HVM.out]
              have X7 := X5.belo b6
              have R7 := R5.belo b6
              have B7 := bl_go B5 b6
              obtain ⟨x0, x1, x2⟩ := id X7
              clear X5 R5 B5 b6 V6 F5
              go_wp2_with fail
              refine (CC.out _ R7).mono ?_
              rintro e w8 ⟨rfl, b8⟩
              have hSM : ((S : Int) == M) = true := by rw [HS2.out]; simp
              go_wp2_with fail
              go_ret
              exact ⟨rfl, bl_go B7 b8⟩
  · have hg : decide ((1048576 : Int) < (bs.length : Int)) = true := by simp; omega
    go_enter Tryz.func3, Tryz.ntmps3
    go_wp2_with fail
    go_ret
    exact ⟨rfl, Below.refl _ _⟩
end Go.Proofs.YtejkbjcmndnfeaaGreat

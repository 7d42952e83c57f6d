
/- Lists of lists of cells: how they read; copies, comparison, sizes; such an argument opened. -/
import Derived.Test.YtejkbjcmndnfeaaGreatCells
import Derived.Test.YtejkbjcmndnfeaaGreatPieceS
namespace Go.Proofs.YtejkbjcmndnfeaaGreat
open Go.RowKit

/-- a slice that reads as lists of cells -/
def RdSS (w : World) (A : Option Addr) (pss : List (List Ce)) : Prop :=
  ∀ k (h : k < pss.length), ∃ (b off : Nat) (A' : Option Addr) (c' : Nat), A = some ⟨b, off, none⟩ ∧ w.cell? ⟨b, off + k, none⟩ = some (.slice A' pss[k].length c') ∧ pss[k].length ≤ c' ∧ pss[k].length ≤ maxLen ∧ RdC w A' pss[k]
theorem RdSS.belo {w w' : World} {A : Option Addr} {pss : List (List Ce)} (h : RdSS w A pss) (hb : Below w.heap.size w w') : RdSS w' A pss := fun k hk => by
  obtain ⟨b, off, A', c', e, h1, h2, h3, h4⟩ := h k hk
  exact ⟨b, off, A', c', e, ((bcell hb).1 _ _ (World.block_lt_of_cell? w _ h1)).trans h1, h2, h3, h4.belo hb⟩
/-- all of them pieces -/
noncomputable def piecesB (pss : List (List Ce)) : Bool := @decide (∀ ps ∈ pss, pieceB ps = true) (Classical.propDecidable _)
theorem piecesB_t {pss : List (List Ce)} (h : ∀ k (hk : k < pss.length), k < pss.length → pieceB pss[k] = true) : piecesB pss = true := by
  unfold piecesB; exact @decide_eq_true _ (Classical.propDecidable _) (fun ps hp => by obtain ⟨j, hj, e⟩ := List.getElem_of_mem hp; rw [← e]; exact h j hj hj)
theorem piecesB_f {pss : List (List Ce)} (k : Nat) (hk : k < pss.length) (h : pieceB pss[k] = false) : piecesB pss = false := by
  unfold piecesB; exact @decide_eq_false _ (Classical.propDecidable _) (fun hh => by have := hh _ (List.getElem_mem hk); rw [h] at this; cases this)
theorem pv1_any (A : Option Addr) (c : Nat) (ps : List Ce) (w : World) (hr : RdC w A ps) (hn : ps.length ≤ maxLen) (hcap : ps.length ≤ c) :
    Calls Tryz.prog 137 #[.slice A ps.length c] w fun e w' => e = .returned (.bool (!pieceB ps)) ∧ Below w.heap.size w w' := by
  go_enter Tryz.func137, Tryz.ntmps137
  go_wp2_with fail
  refine (iPieceValid_any A c ps _ hr hn hcap).mono ?_
  rintro e w1 ⟨rfl, b1⟩
  go_wp2
  go_ret
  exact ⟨rfl, b1⟩
set_option maxHeartbeats 1000000 in
theorem indexP_any (A : Option Addr) (c : Nat) (pss : List (List Ce)) (w : World) (hr : RdSS w A pss) (hn : pss.length ≤ maxLen) :
    Calls Tryz.prog 195 #[.slice A pss.length c, .func (.func 137) #[] #[]] w fun e w' => ∃ r : Int, e = .returned (.int .i64 r) ∧ decide (0 ≤ r) = !piecesB pss ∧ Below w.heap.size w w' := by
  unfold maxLen at hn
  go_enter Tryz.func195, Tryz.ntmps195
  go_wp2_with fail
  go_loopw [8] (fun i wr => ∃ k : Nat, k ≤ pss.length ∧ i = .int .i64 k ∧ Hid (∀ j (h : j < pss.length), j < k → pieceB pss[j] = true) ∧ Below w.heap.size w wr) (fun i _ => pss.length - (intOf i).toNat)
  case atStart => exact ⟨0, Nat.zero_le _, rfl, fun j h h2 => by omega, Below.refl _ _⟩
  case round =>
    obtain ⟨k, hk, rfl, HK, Z1⟩ := hrel
    by_cases hlt : k < pss.length
    · obtain ⟨b, off, A', c', rfl, h1, h2, h3, h4⟩ := (hr.belo Z1) k hlt
      obtain ⟨ps, hps⟩ : ∃ ps, pss[k] = ps := ⟨_, rfl⟩
      have HPS := Lib.hid hps
      rw [hps] at h1 h2 h3 h4
      clear hps
      have CC := Lib.hid (pv1_any A' c' ps wr h4 h3 h2)
      clear h2 h3 h4
      cases hpv : pieceB ps with
      | true =>
        have HPV := Lib.hid hpv
        clear hpv
        go_wp2_with (go_at_call 137; refine CC.out.mono ?_; rintro e w1 ⟨rfl, b1⟩; rw [HPV.out])
        go_roundw
        case rel =>
          refine ⟨k + 1, by omega, by go_num, fun j h h2 => ?_, bl_go Z1 b1⟩
          rcases Nat.lt_or_ge j k with h3 | h3
          · exact HK.out j h h3
          · obtain rfl : j = k := by omega
            rw [HPS.out]; exact HPV.out
        case measure => simp [intOf]; omega
      | false =>
        have HF := Lib.hid (piecesB_f k hlt (by rw [HPS.out]; exact hpv))
        have HPV := Lib.hid hpv
        clear hpv
        go_wp2_with (go_at_call 137; refine CC.out.mono ?_; rintro e w1 ⟨rfl, b1⟩; rw [HPV.out])
        go_ret
        exact ⟨_, rfl, by rw [HF.out]; simp, bl_go Z1 b1⟩
    · have HF := Lib.hid (piecesB_t fun j h _ => HK.out j h (by omega))
      go_wp2_with fail
      go_ret
      exact ⟨_, rfl, by rw [HF.out]; simp, Z1⟩
theorem containsP_any (A : Option Addr) (c : Nat) (pss : List (List Ce)) (w : World) (hr : RdSS w A pss) (hn : pss.length ≤ maxLen) :
    Calls Tryz.prog 136 #[.slice A pss.length c, .func (.func 137) #[] #[]] w fun e w' => e = .returned (.bool (!piecesB pss)) ∧ Below w.heap.size w w' := by
  go_enter Tryz.func136, Tryz.ntmps136
  go_wp2_with fail
  refine (indexP_any A c pss _ hr hn).mono ?_
  rintro e w1 ⟨r, rfl, hr1, b1⟩
  have HR := Lib.hid hr1
  clear hr1
  go_wp2
  go_ret
  exact ⟨ret_b HR.out, b1⟩
set_option maxRecDepth 100000 in
set_option maxHeartbeats 1000000 in
theorem iPiecesValid_any (A : Option Addr) (c : Nat) (pss : List (List Ce)) (w : World) (hr : RdSS w A pss) (hn : pss.length ≤ maxLen) :
    Calls Tryz.prog 66 #[.slice A pss.length c] w fun e w' => e = .returned (.bool (decide (pss.length ≤ 6) && piecesB pss)) ∧ Below w.heap.size w w' := by
  by_cases hl : pss.length ≤ 6
  · have HL := Lib.hid (decide_eq_true hl)
    have hl' : (pss.length : Int) ≤ 6 := by omega
    have hd : decide ((pss.length : Int) ≤ 6) = true := decide_eq_true hl'
    cases hp : piecesB pss with
    | true =>
      have HP := Lib.hid hp
      clear hp
      go_enter Tryz.func66, Tryz.ntmps66
      go_wp2_with (go_at_call 136; refine (containsP_any _ _ _ _ hr hn).mono ?_; rintro e w1 ⟨rfl, b1⟩; rw [HP.out])
      go_ret
      exact ⟨ret_b (by rw [HL.out]; rfl), b1⟩
    | false =>
      have HP := Lib.hid hp
      clear hp
      go_enter Tryz.func66, Tryz.ntmps66
      go_wp2_with (go_at_call 136; refine (containsP_any _ _ _ _ hr hn).mono ?_; rintro e w1 ⟨rfl, b1⟩; rw [HP.out])
      go_ret
      exact ⟨ret_b (by rw [HL.out]; rfl), b1⟩
  · have HL := Lib.hid (decide_eq_false hl)
    have hd : decide ((pss.length : Int) ≤ 6) = false := decide_eq_false (by omega)
    clear hl
    go_enter Tryz.func66, Tryz.ntmps66
    go_wp2_with fail
    go_ret
    exact ⟨ret_b (by rw [HL.out]; rfl), Below.refl _ _⟩
set_option maxHeartbeats 1000000 in
theorem sPiecesValid_any (A : Option Addr) (c : Nat) (pss : List (List Ce)) (w : World) (hr : RdSS w A pss) (hn : pss.length ≤ maxLen) :
    Calls Tryz.prog 33 #[.slice A pss.length c] w fun e w' => e = .returned (.bool (decide (pss.length ≤ 6) && piecesB pss)) ∧ Below w.heap.size w w' := by
  unfold maxLen at hn
  go_enter Tryz.func33, Tryz.ntmps33
  go_wp2_with fail
  go_loopw [3] (fun i wr => ∃ k : Nat, k ≤ pss.length ∧ i = .int .i64 k ∧ Hid (∀ j (h : j < pss.length), j < k → pieceB pss[j] = true) ∧ Below w.heap.size w wr) (fun i _ => pss.length - (intOf i).toNat)
  case atStart => exact ⟨0, Nat.zero_le _, rfl, fun j h h2 => by omega, Below.refl _ _⟩
  case round =>
    obtain ⟨k, hk, rfl, HK, Z1⟩ := hrel
    by_cases hlt : k < pss.length
    · obtain ⟨b, off, A', c', rfl, h1, h2, h3, h4⟩ := (hr.belo Z1) k hlt
      obtain ⟨ps, hps⟩ : ∃ ps, pss[k] = ps := ⟨_, rfl⟩
      have HPS := Lib.hid hps
      rw [hps] at h1 h2 h3 h4
      clear hps
      have CC := Lib.hid (sPieceValid_any A' c' ps wr h4 h3 h2)
      clear h2 h3 h4
      cases hpv : pieceB ps with
      | true =>
        have HPV := Lib.hid hpv
        clear hpv
        go_wp2_with (go_at_call 90; refine CC.out.mono ?_; rintro e w1 ⟨rfl, b1⟩; rw [HPV.out])
        go_roundw
        case rel =>
          refine ⟨k + 1, by omega, by go_num, fun j h h2 => ?_, bl_go Z1 b1⟩
          rcases Nat.lt_or_ge j k with h3 | h3
          · exact HK.out j h h3
          · obtain rfl : j = k := by omega
            rw [HPS.out]; exact HPV.out
        case measure => simp [intOf]; omega
      | false =>
        have HF := Lib.hid (piecesB_f k hlt (by rw [HPS.out]; exact hpv))
        have HPV := Lib.hid hpv
        clear hpv
        go_wp2_with (go_at_call 90; refine CC.out.mono ?_; rintro e w1 ⟨rfl, b1⟩; rw [HPV.out])
        go_ret
        exact ⟨ret_b (by rw [HF.out, Bool.and_false]), bl_go Z1 b1⟩
    · have HF := Lib.hid (piecesB_t fun j h _ => HK.out j h (by omega))
      have HE := Lib.hid (show decide (pss.length ≤ 6) = decide ((pss.length : Int) ≤ 6) from decide_eq_decide.2 (by omega))
      go_wp2_with fail
      go_ret
      exact ⟨ret_b (by rw [HF.out, Bool.and_true, HE.out]), Z1⟩
end Go.Proofs.YtejkbjcmndnfeaaGreat

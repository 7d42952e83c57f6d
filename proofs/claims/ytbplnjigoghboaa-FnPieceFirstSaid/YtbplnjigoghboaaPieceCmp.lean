/- Contracts: pieces compared, as the laws do. -/
import Derived.Test.YtbplnjigoghboaaMarkSS
import Derived.Test.YtbplnjigoghboaaSameC
namespace Go.Proofs.Ytbplnjigoghboaa
open Go.RowKit

set_option maxHeartbeats 1000000 in
theorem sameCellsA_any (A A' : Option Addr) (c c' : Nat) (ps qs : List Ce) (w : World) (hr : RdC w A ps) (hr' : RdC w A' qs) (hn : ps.length ≤ 1000000) :
    Calls Try.prog 27 #[.slice A ps.length c, .slice A' qs.length c'] w fun e w' => e = .returned (.bool (decide (ps = qs))) ∧ Below w.heap.size w w' := by
  by_cases hl : ps.length = qs.length
  · obtain ⟨n, hp⟩ : ∃ n, ps.length = n := ⟨_, rfl⟩
    have HP := Lib.hid hp
    have HQ := Lib.hid (show qs.length = n by omega)
    rw [← hl, hp]
    rw [hp] at hn
    clear hp hl
    have hnn : ((n : Int) != (n : Int)) = false := by simp
    have hneq := fun W a b x y => neq_cell W a b x y
    go_enter Try.func27, Try.ntmps27
    go_wp2_with fail
    go_loopw [5] (fun i wr => ∃ k : Nat, k ≤ n ∧ i = .int .i64 k ∧ Hid (∀ j (h : j < ps.length) (h2 : j < qs.length), j < k → ps[j] = qs[j]) ∧ Below w.heap.size w wr) (fun i _ => n - (intOf i).toNat)
    case atStart => exact ⟨0, Nat.zero_le _, rfl, fun j h h2 h3 => by omega, Below.refl _ _⟩
    case round =>
      obtain ⟨k, hk, rfl, HK, Z1⟩ := hrel
      by_cases hlt : k < n
      · have hkp : k < ps.length := by rw [HP.out]; exact hlt
        have hkq : k < qs.length := by rw [HQ.out]; exact hlt
        obtain ⟨b, off, rfl, c0, c1⟩ := RdC.at_ (w := wr) (Rd.belo hr Z1) hkp
        obtain ⟨b', off', rfl, d0, d1⟩ := RdC.at_ (w := wr) (Rd.belo hr' Z1) hkq
        by_cases hc : ps[k] = qs[k]
        · have HC := Lib.hid hc
          rw [← hc] at d0 d1
          clear hc
          generalize ps[k] = z at c0 c1 d0 d1
          obtain ⟨x, y⟩ := z
          simp only at c0 c1 d0 d1
          have hqq : (x == x && y == y) = true := by simp
          go_wp2_with fail
          go_quiet (fail)
          go_wp2
          go_roundw
          case rel =>
            refine ⟨k + 1, by omega, by go_num, fun j h h2 h3 => ?_, below_drewN' Z1 _⟩
            rcases Nat.lt_or_ge j k with h4 | h4
            · exact HK.out j h h2 h4
            · obtain rfl : j = k := by omega
              exact HC.out
          case measure => simp [intOf]; omega
        · have HF := Lib.hid (show decide (ps = qs) = false from decide_eq_false (fun e => hc (by simp only [e])))
          have hb : (ps[k].1 == qs[k].1 && ps[k].2 == qs[k].2) = false := by
            cases h : (ps[k].1 == qs[k].1 && ps[k].2 == qs[k].2) with
            | false => rfl
            | true => simp at h; exact absurd (Prod.ext h.1 h.2) hc
          clear hc
          generalize ps[k] = z at c0 c1 hb
          generalize qs[k] = z' at d0 d1 hb
          obtain ⟨x, y⟩ := z
          obtain ⟨x', y'⟩ := z'
          simp only at c0 c1 d0 d1 hb
          go_wp2_with fail
          go_quiet (fail)
          go_wp2
          go_ret
          exact ⟨ret_b HF.out.symm, below_drewN' Z1 _⟩
      · have HT := Lib.hid (show decide (ps = qs) = true from decide_eq_true (list_same HP.out HQ.out (fun j h h2 h3 => HK.out j h h2 (by omega))))
        go_wp2_with fail
        go_ret
        exact ⟨ret_b HT.out.symm, Z1⟩
  · have HF := Lib.hid (show decide (ps = qs) = false from decide_eq_false (fun e => hl (by rw [e])))
    have hnn : ((ps.length : Int) != (qs.length : Int)) = true := by rw [bne_iff_ne]; omega
    clear hl
    go_enter Try.func27, Try.ntmps27
    go_wp2
    go_ret
    exact ⟨ret_b HF.out.symm, Below.refl _ _⟩
set_option maxHeartbeats 2000000 in
theorem samePieces_t (A A' : Option Addr) (c c' : Nat) (pss : List (List Ce)) (w : World) (hr : RdSN w A pss) (hr' : RdSN w A' pss) (hn : pss.length ≤ 1000000) (h7 : ∀ ps ∈ pss, ps.length ≤ 7) :
    Calls Try.prog 21 #[.slice A pss.length c, .slice A' pss.length c'] w fun e w' => e = .returned (.bool true) ∧ Below w.heap.size w w' := by
  have H7 := Lib.hid h7
  clear h7
  go_enter Try.func21, Try.ntmps21
  go_wp2_with fail
  go_loopw [5] (fun i wr => ∃ k : Nat, k ≤ pss.length ∧ i = .int .i64 k ∧ Below w.heap.size w wr) (fun i _ => pss.length - (intOf i).toNat)
  case atStart => exact ⟨0, Nat.zero_le _, rfl, Below.refl _ _⟩
  case round =>
    obtain ⟨k, hk, rfl, hbel⟩ := hrel
    by_cases hlt : k < pss.length
    · obtain ⟨b, off, A1, c1, rfl, h1, h3, h4⟩ := (hr.belo hbel) k hlt
      obtain ⟨g, goff, A2, c2, rfl, k1, -, k4⟩ := (hr'.belo hbel) k hlt
      have h5 := H7.out _ (List.getElem_mem hlt)
      generalize pss[k] = ps at h1 h3 h4 k1 k4 h5
      have gs := World.block_lt_of_cell? wr _ h1
      have gt := World.block_lt_of_cell? wr _ k1
      simp only at gs gt
      have L0 : ∀ z : BW wr, z.wo.cell? ⟨b, off + k, none⟩ = some (.slice A1 ps.length c1) := fun z => z.cell gs h1
      have L1 : ∀ z : BW wr, z.wo.cell? ⟨g, goff + k, none⟩ = some (.slice A2 ps.length c2) := fun z => z.cell gt k1
      go_wp2_with fail
      (refine region_bw (by kernel_rfl) (by kernel_rfl) ?_; (repeat (first | go_big_quiet_skip | (go_big_quiet_want; go_big_quiet_op; first | go_big_quiet_on | (refine ⟨.bool true, fun zz => ?_, ?_⟩; (go_at_call 27; exact zz.on (sameCells_t _ _ _ _ ps _ (h4.belo zz.ok) (k4.belo zz.ok) (by omega))); go_big_quiet_on)))); refine wpQuiet_nil ?_; intro wz hw'; obtain ⟨zw, hw''⟩ := hw'; subst hw'')
      go_wp2
      go_roundw
      case rel => exact ⟨k + 1, by omega, by go_num, bl_go hbel zw.ok⟩
      case measure => simp [intOf]; omega
    · go_wp2_with fail
      go_ret
      exact ⟨rfl, hbel⟩
set_option maxHeartbeats 2000000 in
theorem hasPiece_any (A B : Option Addr) (c cB m : Nat) (pss : List (List Ce)) (p : List Ce) (w : World) (hr : RdSN w A pss) (hr' : RdC w B p) (hm : pss.length = m) (hn : m ≤ 1000000) (h7 : ∀ ps ∈ pss, ps.length ≤ 7) :
    Calls Try.prog 32 #[.slice A m c, .slice B p.length cB] w fun e w' => e = .returned (.bool (decide (p ∈ pss))) ∧ Below w.heap.size w w' := by
  have H7 := Lib.hid h7
  have HM := Lib.hid hm
  clear h7 hm
  go_enter Try.func32, Try.ntmps32
  go_wp2_with fail
  go_loopw [5] (fun i wr => ∃ k : Nat, k ≤ m ∧ i = .int .i64 k ∧ Hid (∀ j (h : j < pss.length), j < k → pss[j] ≠ p) ∧ Below w.heap.size w wr) (fun i _ => m - (intOf i).toNat)
  case atStart => exact ⟨0, Nat.zero_le _, rfl, fun j h h2 => by omega, Below.refl _ _⟩
  case round =>
    obtain ⟨k, hk, rfl, HK, Z1⟩ := hrel
    by_cases hlt : k < m
    · have hkp : k < pss.length := by rw [HM.out]; exact hlt
      obtain ⟨b, off, A1, c1, rfl, h1, h3, h4⟩ := (hr.belo Z1) k hkp
      have h5 := H7.out _ (List.getElem_mem hkp)
      have CC := Lib.hid (sameCellsA_any A1 B c1 cB pss[k] p wr h4 (Rd.belo hr' Z1) (by omega))
      by_cases hE : pss[k] = p
      · have HD := Lib.hid (decide_eq_true hE)
        have HT := Lib.hid (show decide (p ∈ pss) = true from decide_eq_true (by rw [← hE]; exact List.getElem_mem hkp))
        rw [HD.out] at CC
        clear hE
        generalize pss[k].length = n1 at h1 CC
        clear h3 h4 h5
        go_wp2_with (go_at_call 27; refine CC.out.mono ?_; rintro e w5 ⟨rfl, b5⟩)
        go_ret
        exact ⟨ret_b HT.out.symm, bl_go Z1 b5⟩
      · have HD := Lib.hid (decide_eq_false hE)
        have HE := Lib.hid hE
        rw [HD.out] at CC
        clear hE
        generalize pss[k].length = n1 at h1 CC
        clear h3 h4 h5
        go_wp2_with (go_at_call 27; refine CC.out.mono ?_; rintro e w5 ⟨rfl, b5⟩)
        go_roundw
        case rel =>
          refine ⟨k + 1, by omega, by go_num, fun j h h2 => ?_, bl_go Z1 b5⟩
          rcases Nat.lt_or_ge j k with h6 | h6
          · exact HK.out j h h6
          · obtain rfl : j = k := by omega
            exact HE.out
        case measure => simp [intOf]; omega
    · have HF := Lib.hid (show decide (p ∈ pss) = false from decide_eq_false (fun hm => by
        obtain ⟨j, hj, e⟩ := List.getElem_of_mem hm
        exact HK.out j hj (by have := HM.out; omega) e))
      go_wp2_with fail
      go_ret
      exact ⟨ret_b HF.out.symm, Z1⟩
end Go.Proofs.Ytbplnjigoghboaa

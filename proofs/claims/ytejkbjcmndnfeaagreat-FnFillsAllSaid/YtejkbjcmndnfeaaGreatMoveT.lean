
/- Contracts: the reference's PieceMoved, PieceTurn, PieceFlip. -/
import Derived.Test.YtejkbjcmndnfeaaGreatMoveS
namespace Go.Proofs.YtejkbjcmndnfeaaGreat
open Go.RowKit Go.Sort

set_option maxHeartbeats 1000000 in
theorem sPieceMoved_any (A : Option Addr) (c : Nat) (ps : List Ce) (w : World) (hr : RdC w A ps) (hn : ps.length ≤ maxLen) (hcap : ps.length ≤ c) :
    Calls Tryz.prog 132 #[.slice A ps.length c] w (NewRdK (mvdV stayC ps) w) := by
  cases hp : pieceB ps with
  | true =>
    obtain ⟨⟨h1, h5⟩, hb, hnd, -⟩ := ok_of_pieceB hp
    rw [show mvdV stayC ps = mvd ps by unfold mvdV; rw [if_pos hp, map_stay]]
    have HP := Lib.hid hp
    have HB := Lib.hid (show ∀ q ∈ ps, inBd 9 q from hb)
    have HN := Lib.hid hnd
    clear hp hb hnd
    go_enter Tryz.func132, Tryz.ntmps132
    go_wp2_with fail
    refine (sPieceValid_any _ _ _ _ hr hn hcap).mono ?_
    rintro e w1 ⟨rfl, b1⟩
    rw [HP.out]
    go_wp2_with fail
    refine (l8Moved_any _ _ _ _ (hr.belo b1) h1 h5 HB.out HN.out).mono ?_
    rintro e w2 ⟨A2, c2, rfl, r2, b2, f2⟩
    go_wp2
    go_ret
    exact ⟨A2, c2, rfl, r2, bl_go b1 b2, fun ad h => by have := f2.1 ad h; have := b1.size; omega, f2.2⟩
  | false =>
    rw [show mvdV stayC ps = [] by unfold mvdV; rw [hp]; rfl]
    have HP := Lib.hid hp
    clear hp
    go_enter Tryz.func132, Tryz.ntmps132
    go_wp2_with fail
    refine (sPieceValid_any _ _ _ _ hr hn hcap).mono ?_
    rintro e w1 ⟨rfl, b1⟩
    rw [HP.out]
    go_wp2
    go_ret
    refine ⟨_, _, rfl, Rd.nil _ _, bl_alloc b1 _, fun ad h => ?_, Nat.zero_le _⟩
    injection h with h
    subst h
    exact b1.size
/-- numbers of 64 bits -/
def okI (x : Int) : Prop := -9223372036854775808 ≤ x ∧ x ≤ 9223372036854775807
def okC (c : Ce) : Prop := okI c.1 ∧ okI c.2
def negI (x : Int) : Int := IntKind.i64.wrap (-x)
theorem negI_ok {x : Int} (h : okI x) (hx : x ≠ -9223372036854775808) : negI x = -x := by unfold okI at h; unfold negI; exact IntWalk.i64_in _ (by omega)
theorem negI_min : negI (-9223372036854775808) = -9223372036854775808 := by decide
def turnW (c : Ce) : Ce := (negI c.2, c.1)
def flipW (c : Ce) : Ce := (negI c.1, c.2)
theorem turnW_eq {ps : List Ce} (hw : ∀ q ∈ ps, okC q) : mvdV stayC (ps.map turnW) = mvdV turnC ps := by
  by_cases hm : ∃ q ∈ ps, q.2 = -9223372036854775808
  · obtain ⟨q, hq, hqm⟩ := hm
    have e1 : pieceB ps = false := pieceB_f (fun hk => by have := hk.2.1 q hq; omega)
    have e2 : pieceB (ps.map turnW) = false := pieceB_f (fun hk => by
      have := hk.2.1 (turnW q) (List.mem_map_of_mem hq)
      have e : (turnW q).1 = -9223372036854775808 := by unfold turnW; rw [hqm]; exact negI_min
      omega)
    unfold mvdV
    rw [e1, e2]; rfl
  · have e : ps.map turnW = ps.map turnC := by
      refine List.map_congr_left (fun q hq => ?_)
      have h1 := hw q hq
      unfold turnW turnC
      rw [negI_ok h1.2 (fun hh => hm ⟨q, hq, hh⟩)]
    unfold mvdV
    rw [e, map_stay, pieceB_turn]
set_option maxRecDepth 100000 in
set_option maxHeartbeats 2000000 in
theorem sPieceTurn_any (A : Option Addr) (c : Nat) (ps : List Ce) (w : World) (hr : RdC w A ps) (hn : ps.length ≤ 1048576) (hw : ∀ q ∈ ps, okC q) :
    Calls Tryz.prog 193 #[.slice A ps.length c] w (NewRdK (mvdV turnC ps) w) := by
  rw [← turnW_eq hw]
  clear hw
  have O0 : OwnC (w.alloc (.cells #[] 89)) w.heap.size (.slice (some ⟨w.heap.size, 0, none⟩) 0 0) [] := ⟨_, _, rfl, World.ownsRow_lit w #[] 0 (Nat.le_refl _) (by simp) (by simp)⟩
  have Z0 := bl_alloc (Below.refl w.heap.size w) (.cells #[] 89)
  go_enter Tryz.func193, Tryz.ntmps193
  go_wp2_with fail
  go_loopw [3, 4] (fun v i wr => ∃ (k : Nat) (L : List Ce), Hid (L = (ps.take k).map turnW) ∧ L.length = k ∧ k ≤ ps.length ∧ i = .int .i64 k ∧ OwnC wr w.heap.size v L ∧ Below w.heap.size w wr) (fun _ i _ => ps.length - (intOf i).toNat)
  case atStart => exact ⟨0, [], rfl, rfl, Nat.zero_le _, rfl, O0, Z0⟩
  case round =>
    clear O0 Z0
    obtain ⟨k, L, HL, hLk, hk, rfl, OM, B1⟩ := hrel
    obtain ⟨A3, c3, rfl, hw3⟩ := id OM
    by_cases hlt : k < ps.length
    · obtain ⟨b, off, rfl, c0, c1⟩ := RdC.at_ (w := wr) (show RdC wr A ps from hr.belo B1) hlt
      obtain ⟨q, hq⟩ : ∃ q, ps[k] = q := ⟨_, rfl⟩
      have HQ := Lib.hid hq
      rw [hq] at c0 c1
      clear hq
      obtain ⟨x, y⟩ := q
      simp only at c0 c1
      have hkI : (k : Int) < (ps.length : Int) := by omega
      have hng : IntKind.i64.wrap (-y) = negI y := rfl
      have z2 := World.block_lt_of_cell? wr _ c0
      simp only at z2
      have hsz := B1.size
      have OW1 : OwnC (wr.alloc (.cells #[.int .i64 (negI y), .int .i64 x] 89)).drew w.heap.size (.slice A3 L.length c3) L := OM.alloc _
      have BB1 : Below w.heap.size w (wr.alloc (.cells #[.int .i64 (negI y), .int .i64 x] 89)).drew := (bl_alloc B1 _).drew
      have e0 : (wr.alloc (.cells #[.int .i64 (negI y), .int .i64 x] 89)).drew.cell? ⟨wr.heap.size, 0, none⟩ = some (.int .i64 (negI y)) := cell_of_row _ _ _ _ _ _ (heap_alloc_new wr _)
      have e1 : (wr.alloc (.cells #[.int .i64 (negI y), .int .i64 x] 89)).drew.cell? ⟨wr.heap.size, 1, none⟩ = some (.int .i64 x) := cell_of_row _ _ _ _ _ _ (heap_alloc_new wr _)
      have hLl : L.length ≤ 1000000000000 := by omega
      have HLK := Lib.hid hLk
      clear hLk
      go_wp2_with fail
      go_region_law (first
        | (refine step_app_cell _ rfl _ _ rfl w.heap.size _ L rfl OW1 (negI y) x _ rfl e0 e1 hLl (by simp; omega) ?_
           intro g4 c4 w4 o4 G4 e4))
      all_goals (
        go_wp2_with fail
        go_roundw
        case rel =>
          refine ⟨k + 1, L ++ [(negI y, x)], ?_, by rw [List.length_append, HLK.out]; rfl, by omega, by go_num, by simpa using o4, BB1.grown G4 (by simp; omega) (fun kk hkk => own_base_lt OW1 kk hkk)⟩
          show _ = _
          rw [take_one_more ps k hlt, List.map_append, HL.out, HQ.out]
          rfl
        case measure => simp [intOf]; omega)
    · obtain rfl : k = ps.length := by omega
      have HE : Hid (L = ps.map turnW) := by show _ = _; rw [HL.out, List.take_length]
      have hcap : L.length ≤ c3 := by
        rcases hw3.2 with ⟨e, e2⟩ | ⟨g, cap, cur, e, _, _, h3, _⟩
        · injection e with _ _ e3; omega
        · injection e with _ _ e3; omega
      have hcon := sPieceMoved_any A3 c3 L wr OM.rd (by unfold maxLen; omega) hcap
      rw [hLk] at hcon
      have HC := Lib.hid hcon
      clear hw3 hcon
      go_wp2_with fail
      refine HC.out.mono ?_
      rintro e w2 ⟨A2, c2, rfl, r2, b2, f2⟩
      rw [HE.out] at r2 ⊢
      go_wp2
      go_ret
      exact ⟨A2, c2, rfl, r2, bl_go B1 b2, fun ad h => by have := f2.1 ad h; have := B1.size; omega, by rw [← HE.out]; exact f2.2⟩
theorem flipW_eq {ps : List Ce} (hw : ∀ q ∈ ps, okC q) : mvdV stayC (ps.map flipW) = mvdV flipC ps := by
  by_cases hm : ∃ q ∈ ps, q.1 = -9223372036854775808
  · obtain ⟨q, hq, hqm⟩ := hm
    have e1 : pieceB ps = false := pieceB_f (fun hk => by have := hk.2.1 q hq; omega)
    have e2 : pieceB (ps.map flipW) = false := pieceB_f (fun hk => by
      have := hk.2.1 (flipW q) (List.mem_map_of_mem hq)
      have e : (flipW q).1 = -9223372036854775808 := by unfold flipW; rw [hqm]; exact negI_min
      omega)
    unfold mvdV
    rw [e1, e2]; rfl
  · have e : ps.map flipW = ps.map flipC := by
      refine List.map_congr_left (fun q hq => ?_)
      have h1 := hw q hq
      unfold flipW flipC
      rw [negI_ok h1.1 (fun hh => hm ⟨q, hq, hh⟩)]
    unfold mvdV
    rw [e, map_stay, pieceB_flip]
set_option maxRecDepth 100000 in
set_option maxHeartbeats 2000000 in
theorem sPieceFlip_any (A : Option Addr) (c : Nat) (ps : List Ce) (w : World) (hr : RdC w A ps) (hn : ps.length ≤ 1048576) (hw : ∀ q ∈ ps, okC q) :
    Calls Tryz.prog 194 #[.slice A ps.length c] w (NewRdK (mvdV flipC ps) w) := by
  rw [← flipW_eq hw]
  clear hw
  have O0 : OwnC (w.alloc (.cells #[] 89)) w.heap.size (.slice (some ⟨w.heap.size, 0, none⟩) 0 0) [] := ⟨_, _, rfl, World.ownsRow_lit w #[] 0 (Nat.le_refl _) (by simp) (by simp)⟩
  have Z0 := bl_alloc (Below.refl w.heap.size w) (.cells #[] 89)
  go_enter Tryz.func194, Tryz.ntmps194
  go_wp2_with fail
  go_loopw [3, 4] (fun v i wr => ∃ (k : Nat) (L : List Ce), Hid (L = (ps.take k).map flipW) ∧ L.length = k ∧ k ≤ ps.length ∧ i = .int .i64 k ∧ OwnC wr w.heap.size v L ∧ Below w.heap.size w wr) (fun _ i _ => ps.length - (intOf i).toNat)
  case atStart => exact ⟨0, [], rfl, rfl, Nat.zero_le _, rfl, O0, Z0⟩
  case round =>
    clear O0 Z0
    obtain ⟨k, L, HL, hLk, hk, rfl, OM, B1⟩ := hrel
    obtain ⟨A3, c3, rfl, hw3⟩ := id OM
    by_cases hlt : k < ps.length
    · obtain ⟨b, off, rfl, c0, c1⟩ := RdC.at_ (w := wr) (show RdC wr A ps from hr.belo B1) hlt
      obtain ⟨q, hq⟩ : ∃ q, ps[k] = q := ⟨_, rfl⟩
      have HQ := Lib.hid hq
      rw [hq] at c0 c1
      clear hq
      obtain ⟨x, y⟩ := q
      simp only at c0 c1
      have hkI : (k : Int) < (ps.length : Int) := by omega
      have hng : IntKind.i64.wrap (-x) = negI x := rfl
      have z2 := World.block_lt_of_cell? wr _ c0
      simp only at z2
      have hsz := B1.size
      have OW1 : OwnC (wr.alloc (.cells #[.int .i64 (negI x), .int .i64 y] 89)).drew w.heap.size (.slice A3 L.length c3) L := OM.alloc _
      have BB1 : Below w.heap.size w (wr.alloc (.cells #[.int .i64 (negI x), .int .i64 y] 89)).drew := (bl_alloc B1 _).drew
      have e0 : (wr.alloc (.cells #[.int .i64 (negI x), .int .i64 y] 89)).drew.cell? ⟨wr.heap.size, 0, none⟩ = some (.int .i64 (negI x)) := cell_of_row _ _ _ _ _ _ (heap_alloc_new wr _)
      have e1 : (wr.alloc (.cells #[.int .i64 (negI x), .int .i64 y] 89)).drew.cell? ⟨wr.heap.size, 1, none⟩ = some (.int .i64 y) := cell_of_row _ _ _ _ _ _ (heap_alloc_new wr _)
      have hLl : L.length ≤ 1000000000000 := by omega
      have HLK := Lib.hid hLk
      clear hLk
      go_wp2_with fail
      go_region_law (first
        | (refine step_app_cell _ rfl _ _ rfl w.heap.size _ L rfl OW1 (negI x) y _ rfl e0 e1 hLl (by simp; omega) ?_
           intro g4 c4 w4 o4 G4 e4))
      all_goals (
        go_wp2_with fail
        go_roundw
        case rel =>
          refine ⟨k + 1, L ++ [(negI x, y)], ?_, by rw [List.length_append, HLK.out]; rfl, by omega, by go_num, by simpa using o4, BB1.grown G4 (by simp; omega) (fun kk hkk => own_base_lt OW1 kk hkk)⟩
          show _ = _
          rw [take_one_more ps k hlt, List.map_append, HL.out, HQ.out]
          rfl
        case measure => simp [intOf]; omega)
    · obtain rfl : k = ps.length := by omega
      have HE : Hid (L = ps.map flipW) := by show _ = _; rw [HL.out, List.take_length]
      have hcap : L.length ≤ c3 := by
        rcases hw3.2 with ⟨e, e2⟩ | ⟨g, cap, cur, e, _, _, h3, _⟩
        · injection e with _ _ e3; omega
        · injection e with _ _ e3; omega
      have hcon := sPieceMoved_any A3 c3 L wr OM.rd (by unfold maxLen; omega) hcap
      rw [hLk] at hcon
      have HC := Lib.hid hcon
      clear hw3 hcon
      go_wp2_with fail
      refine HC.out.mono ?_
      rintro e w2 ⟨A2, c2, rfl, r2, b2, f2⟩
      rw [HE.out] at r2 ⊢
      go_wp2
      go_ret
      exact ⟨A2, c2, rfl, r2, bl_go B1 b2, fun ad h => by have := f2.1 ad h; have := B1.size; omega, by rw [← HE.out]; exact f2.2⟩
end Go.Proofs.YtejkbjcmndnfeaaGreat

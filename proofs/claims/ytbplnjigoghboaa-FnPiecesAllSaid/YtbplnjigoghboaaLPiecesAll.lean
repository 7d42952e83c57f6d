/- The walk of the law FnPiecesAll. -/
import Derived.Test.YtbplnjigoghboaaPieceCmp
import Derived.Test.YtbplnjigoghboaaPiecesI
import Derived.Test.YtbplnjigoghboaaPiecesT
import Derived.Test.YtbplnjigoghboaaFormJ
import Derived.Test.YtbplnjigoghboaaBw
import Derived.Test.YtbplnjigoghboaaAlive
namespace Go.Proofs.Ytbplnjigoghboaa
open Go.RowKit

theorem rdC_belo {w w' : World} {A : Option Addr} {X : List Ce} (h : RdC w A X) (hb : Below w.heap.size w w') : RdC w' A X := Rd.belo h hb
theorem allV_no {m : Int} (h : ¬ (1 ≤ m ∧ m ≤ 5)) : allV m = [] := by unfold allV; rw [if_neg h]
theorem allV_piece {t : Nat} (h1 : 1 ≤ t) (h5 : t ≤ 5) {x : List Ce} (hx : x ∈ allV (t : Int)) : pieceB x = true ∧ x.length = t ∧ x ∈ allP t := by
  unfold allV at hx
  rw [if_pos (by omega)] at hx
  have h := allP_ok t h5 x hx
  exact ⟨pieceB_t h.ok, h.len, hx⟩
theorem allV_apart {t : Nat} (h1 : 1 ≤ t) (h5 : t ≤ 5) {i j : Nat} {x y : List Ce} (hij : i < j) (hi : (allV (t : Int))[i]? = some x) (hj : (allV (t : Int))[j]? = some y) : sameV y x = false := by
  have hnd : (allV (t : Int)).Nodup := by
    unfold allV
    rw [if_pos (by omega)]
    exact (allP_inc _).nodup
  obtain ⟨li, ei⟩ := List.getElem?_eq_some_iff.1 hi
  obtain ⟨lj, ej⟩ := List.getElem?_eq_some_iff.1 hj
  have a := (allV_piece h1 h5 (show y ∈ allV (t : Int) by rw [← ej]; exact List.getElem_mem lj)).2.2
  have b := (allV_piece h1 h5 (show x ∈ allV (t : Int) by rw [← ei]; exact List.getElem_mem li)).2.2
  unfold sameV
  have hne : firstV y ≠ firstV x := fun e => by
    have e2 := all_apart h5 a b e
    have e3 := List.pairwise_iff_getElem.1 hnd i j li lj hij
    rw [ei, ej] at e3
    exact e3 e2.symm
  rw [decide_eq_false hne, Bool.and_false]
theorem allV_many {t : Nat} (h1 : 1 ≤ t) (h5 : t ≤ 5) : (t = 1 ∧ (allV (t : Int)).length = 1) ∨ (t = 2 ∧ (allV (t : Int)).length = 1) ∨ (t = 3 ∧ (allV (t : Int)).length = 2) ∨ (t = 4 ∧ (allV (t : Int)).length = 5) ∨ (t = 5 ∧ (allV (t : Int)).length = 12) := by
  have e : allV (t : Int) = allP t := by unfold allV; rw [if_pos (by omega)]; rfl
  rw [e]
  obtain ⟨e1, e2, e3, e4, e5⟩ := all_len
  rcases (show t = 1 ∨ t = 2 ∨ t = 3 ∨ t = 4 ∨ t = 5 from by omega) with rfl | rfl | rfl | rfl | rfl
  · exact .inl ⟨rfl, e1⟩
  · exact .inr (.inl ⟨rfl, e2⟩)
  · exact .inr (.inr (.inl ⟨rfl, e3⟩))
  · exact .inr (.inr (.inr (.inl ⟨rfl, e4⟩)))
  · exact .inr (.inr (.inr (.inr ⟨rfl, e5⟩)))
set_option maxHeartbeats 1000000 in
theorem drawPiecesAll_any (A : Option Addr) (c : Nat) (bs : List Int) (w : World) (hr : Rd w A (bs.map (.int .u8))) (hw : ∀ x ∈ bs, 0 ≤ x ∧ x ≤ 255) (hn : bs.length ≤ 1048576) (hcap : bs.length ≤ c) :
    Calls Try.prog 20 #[.slice A bs.length c] w fun e w' => ∃ m : Int, e = .returned (.int .i64 m) ∧ -1 ≤ m ∧ m ≤ 6 ∧ Below w.heap.size w w' := by
  have HW := Lib.hid hw
  clear hw
  go_enter Try.func20, Try.ntmps20
  go_wp2_with fail
  refine (open_any A c bs _ hr HW.out hn hcap).mono ?_
  rintro e w1 ⟨g, A1, c1, by1, rfl, O1⟩
  go_wp2_with fail
  refine (pick_any 8 _ g A1 c1 by1 0 O1.1 (by omega) (by omega)).mono ?_
  rintro e w2 ⟨r1, rfl, ⟨p1, q1⟩, S2, G2⟩
  have O2 := O1.pick S2 G2
  have q1' : r1 ≤ 7 := by omega
  clear q1 S2 G2 O1
  go_wp2
  go_ret
  exact ⟨_, rfl, by omega, by omega, O2.2.2⟩
set_option maxRecDepth 100000 in
set_option maxHeartbeats 4000000 in
theorem fnPiecesAll_walk {w0 : World} (A : Option Addr) (c : Nat) (bs : List Int) (hcap : bs.length ≤ c) (hm : bs.length ≤ maxLen) (hr : Rd w0 A (bs.map (.int .u8))) (hw : ∀ n ∈ bs, 0 ≤ n ∧ n ≤ 255) :
    Calls Try.prog 4 #[.slice A bs.length c] w0 fun e w' => e = .returned (.bool true) ∧ Below w0.heap.size w0 w' := by
  have HW := Lib.hid hw
  clear hw
  unfold maxLen at hm
  by_cases hn : bs.length ≤ 1048576
  · have hg : decide ((1048576 : Int) < (bs.length : Int)) = false := by simp; omega
    go_enter Try.func4, Try.ntmps4
    go_wp2_with fail
    refine (drawPiecesAll_any A c bs _ hr HW.out hn hcap).mono ?_
    rintro e w1 ⟨m, rfl, m0, m6, B1⟩
    clear hg hn hm hr HW hcap
    by_cases hmr : 1 ≤ m ∧ m ≤ 5
    · obtain ⟨t, rfl⟩ := Int.eq_ofNat_of_zero_le (show 0 ≤ m by omega)
      have t1 : 1 ≤ t := by omega
      have t5 : t ≤ 5 := by omega
      have CI := Lib.hid (fun (z : World) => iPiecesAll_any (t : Int) z)
      have CS := Lib.hid (fun (z : World) => sPiecesAll_any (t : Int) z)
      have HP := Lib.hid (fun x hx => allV_piece (x := x) t1 t5 hx)
      have HAP := Lib.hid (fun (i j : Nat) (x y : List Ce) (hij : i < j) hi hj => allV_apart (x := x) (y := y) t1 t5 hij hi hj)
      have HMN := Lib.hid (allV_many t1 t5)
      have hFl := allV_len (t : Int)
      have H7 := Lib.hid (fun x hx => by have := allV_each (t : Int) x hx; omega : ∀ x ∈ allV (t : Int), x.length ≤ 7)
      generalize allV (t : Int) = F at *
      have d1 : decide ((t : Int) < 1) = false := by simp; omega
      have d2 : decide (5 < (t : Int)) = false := by simp; omega
      have hne : ((t : Int) != (t : Int)) = false := by simp
      clear hmr m0 m6
      go_wp2_with fail
      refine (CI.out _).mono ?_
      rintro e w2 ⟨A2, xs2, rfl, rd2, -, hd2, -, b2⟩
      have B2 := bl_go B1 b2
      clear B1 b2
      go_wp2_with fail
      refine (CS.out _).mono ?_
      rintro e w3 ⟨b3a, c3, xs3, rfl, -, rd3, hd3, b3⟩
      have rd3' := rd2.belo b3
      have hd3' := hd2.belo b3
      have B3 := bl_go B2 b3
      clear B2 b3 rd2 hd2
      go_wp2_with fail
      refine (samePieces_t _ _ _ _ F _ (RdSN.ofR rd3' hd3') (RdSN.ofN rd3 hd3) (by omega) H7.out).mono ?_
      rintro e w4 ⟨rfl, b4⟩
      have rd4 := rd3'.belo b4
      have hd4 := hd3'.belo b4
      have B4 := bl_go B3 b4
      clear rd3' hd3' rd3 hd3 B3 b4
      obtain ⟨N, hN⟩ : ∃ N, F.length = N := ⟨_, rfl⟩
      have HN := Lib.hid hN
      rw [hN] at HMN hFl ⊢
      clear hN
      go_wp2_with fail
      clear d1 d2
      go_loopw [5] (fun i wr => ∃ j : Nat, j ≤ N ∧ i = .int .i64 j ∧ Below w4.heap.size w4 wr) (fun i _ => N - (intOf i).toNat)
      case atStart => exact ⟨0, Nat.zero_le _, rfl, Below.refl _ _⟩
      case round =>
        obtain ⟨j, hj, rfl, Z1⟩ := hrel
        by_cases hlt : j < N
        · have hjF : j < F.length := by rw [HN.out]; exact hlt
          have rd5 := rd4.belo Z1
          have hd5 := hd4.belo Z1
          obtain ⟨B6, c6, e6, l6, m6, r6⟩ := hd5.2 j hjF
          obtain ⟨b, off, rfl, hc⟩ := rd_cellE rd5 e6
          have hPx := HP.out _ (List.getElem_mem hjF)
          have hjs : F[j]? = some F[j] := List.getElem?_eq_getElem hjF
          obtain ⟨x, hx⟩ : ∃ x, F[j] = x := ⟨_, rfl⟩
          rw [hx] at e6 l6 m6 r6 hc hPx hjs
          have HJS := Lib.hid hjs
          clear hjs
          obtain ⟨px, lx, -⟩ := hPx
          have mx : x.length ≤ maxLen := by unfold maxLen; omega
          have CV := Lib.hid (fun (z : World) (R : RdC z B6 x) => by have := iPieceValid_any B6 c6 x z R mx l6; rw [px, lx] at this; exact this)
          rw [lx] at hc
          have HC := Lib.hid (fun (z : World) (hb : Below wr.heap.size wr z) => ((bcell hb).1 b (off + j) (by have := World.block_lt_of_cell? wr _ hc; simpa using this)).trans hc)
          have hjN : (j : Int) < (N : Int) := by omega
          have HPX := Lib.hid px
          clear px
          go_wp2_with fail
          refine (CV.out _ r6).mono ?_
          rintro e w5 ⟨rfl, b5⟩
          have hc5 := HC.out _ b5
          have rd6 := rd5.belo b5
          have hd6 := hd5.belo b5
          have r7 : RdC w5 B6 x := Rd.belo r6 b5
          have Z2 := bl_go Z1 b5
          clear hc rd5 hd5 b5 e6 m6 r6
          go_wp2_with fail
          go_loopw [6] (fun i wr => ∃ k : Nat, k ≤ j ∧ i = .int .i64 k ∧ Below w5.heap.size w5 wr) (fun i _ => j - (intOf i).toNat)
          case atStart => exact ⟨0, Nat.zero_le _, rfl, Below.refl _ _⟩
          case round =>
            obtain ⟨k, hk, rfl, Z3⟩ := hrel
            by_cases hkj : k < j
            · have hkF : k < F.length := by omega
              have rd8 := rd6.belo Z3
              obtain ⟨B8, c8, e8, l8, m8, r8⟩ := (hd6.belo Z3).2 k hkF
              obtain ⟨b', off', hbb, hc8⟩ := rd_cellE rd8 e8
              obtain ⟨rfl, rfl⟩ : b = b' ∧ off = off' := by injection hbb with e; injection e with e1 e2; exact ⟨e1, e2⟩
              have hPy := HP.out _ (List.getElem_mem hkF)
              have hks : F[k]? = some F[k] := List.getElem?_eq_getElem hkF
              obtain ⟨y, hy⟩ : ∃ y, F[k] = y := ⟨_, rfl⟩
              rw [hy] at e8 l8 m8 r8 hc8 hPy hks
              have hAp := HAP.out k j y x hkj hks HJS.out
              clear hks
              obtain ⟨py, ly, -⟩ := hPy
              have my : y.length ≤ maxLen := by unfold maxLen; omega
              have r9 : RdC wr B6 x := Rd.belo r7 Z3
              have CE := Lib.hid (fun (z : World) (R : RdC z B6 x) (Q : RdC z B8 y) => by have := iSamePiece_any B6 B8 c6 c8 x y z R Q mx my l6 l8; rw [hAp, lx, ly] at this; exact this)
              rw [ly] at hc8
              have hc9 := ((bcell Z3).1 b (off + j) (by have := World.block_lt_of_cell? w5 _ hc5; simpa using this)).trans hc5
              have hkI : (k : Int) < (j : Int) := by omega
              have hkN : (k : Int) < (N : Int) := by omega
              have s1 := World.block_lt_of_cell? wr _ hc9
              have s2 := World.block_lt_of_cell? wr _ hc8
              simp only at s1 s2
              have L0 : ∀ z : BW wr, z.wo.cell? ⟨b, off + j, none⟩ = some (.slice B6 t c6) := fun z => z.cell s1 hc9
              have L1 : ∀ z : BW wr, z.wo.cell? ⟨b, off + k, none⟩ = some (.slice B8 t c8) := fun z => z.cell s2 hc8
              have R9 := Lib.hid r9
              have R8 := Lib.hid r8
              clear hc9 hc8 r9 r8 s1 s2 hAp py e8 m8 hbb hy
              go_wp2_with fail
              (refine region_bw (by kernel_rfl) (by kernel_rfl) ?_; (repeat (first | go_big_quiet_skip | (go_big_quiet_want; go_big_quiet_op; first | go_big_quiet_on | (refine ⟨.bool false, fun zz => ?_, ?_⟩; (go_at_call 24; with_reducible exact zz.on (CE.out zz.wo (rdC_belo R9.out zz.ok) (rdC_belo R8.out zz.ok))); go_big_quiet_on)))); refine wpQuiet_nil ?_; intro wz hw'; obtain ⟨zw, hw''⟩ := hw'; subst hw'')
              go_wp2_with fail
              go_roundw
              case rel => exact ⟨k + 1, by omega, by go_num, bl_go Z3 zw.ok⟩
              case measure => simp [intOf]; omega
            · obtain rfl : k = j := by omega
              go_wp2_with fail
              go_roundw
              case rel => exact ⟨k + 1, by omega, by go_num, bl_go Z2 Z3⟩
              case measure => simp [intOf]; omega
        · obtain rfl : j = N := by omega
          rcases HMN.out with ⟨rfl, rfl⟩ | ⟨rfl, rfl⟩ | ⟨rfl, rfl⟩ | ⟨rfl, rfl⟩ | ⟨rfl, rfl⟩
          all_goals (
            go_wp2_with fail
            go_ret
            exact ⟨rfl, bl_alloc (bl_go B4 Z1) _⟩)
    · have CI := Lib.hid (fun (z : World) => iPiecesAll_any m z)
      have CS := Lib.hid (fun (z : World) => sPiecesAll_any m z)
      rw [allV_no hmr] at CI CS
      go_wp2_with fail
      refine (CI.out _).mono ?_
      rintro e w2 ⟨A2, xs2, rfl, rd2, -, hd2, -, b2⟩
      have B2 := bl_go B1 b2
      simp only [List.length_nil]
      go_wp2_with fail
      refine (CS.out _).mono ?_
      rintro e w3 ⟨b3a, c3, xs3, rfl, -, rd3, hd3, b3⟩
      have rd3' := rd2.belo b3
      have hd3' := hd2.belo b3
      have B3 := bl_go B2 b3
      simp only [List.length_nil]
      go_wp2_with fail
      refine (samePieces_t _ _ _ _ [] _ (RdSN.ofR rd3' hd3') (RdSN.ofN rd3 hd3) (by simp) (by simp)).mono ?_
      rintro e w4 ⟨rfl, b4⟩
      have B4 := bl_go B3 b4
      clear rd2 hd2 rd3 hd3 rd3' hd3' B1 B2 B3 b2 b3 b4 CI CS
      by_cases h1 : m < 1
      · have d1 : decide (m < 1) = true := by simp; omega
        clear hmr
        go_wp2_with (first | (go_at_call 22; refine (alive_any _).mono ?_; rintro e w6 ⟨rfl, b6⟩))
        go_ret
        exact ⟨rfl, bl_go B4 b6⟩
      · have d1 : decide (m < 1) = false := by simp; omega
        have d2 : decide (5 < m) = true := by simp; omega
        clear hmr
        go_wp2_with (first | (go_at_call 22; refine (alive_any _).mono ?_; rintro e w6 ⟨rfl, b6⟩))
        go_ret
        exact ⟨rfl, bl_go B4 b6⟩
  · have hg : decide ((1048576 : Int) < (bs.length : Int)) = true := by simp; omega
    go_enter Try.func4, Try.ntmps4
    go_wp2
    go_ret
    exact ⟨rfl, Below.refl _ _⟩
end Go.Proofs.Ytbplnjigoghboaa

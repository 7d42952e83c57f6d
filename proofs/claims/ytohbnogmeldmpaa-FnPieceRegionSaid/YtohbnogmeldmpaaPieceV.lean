
/- Contract: the program's PieceValid. -/
import Derived.Test.YtohbnogmeldmpaaCellApp
namespace Go.Proofs.Ytohbnogmeldmpaa
open Go.RowKit

def inR (q : Ce) : Prop := -9 ≤ q.1 ∧ q.1 ≤ 9 ∧ -9 ≤ q.2 ∧ q.2 ≤ 9
def cellOkAt (ps : List Ce) (j : Nat) : Prop := ∀ (hj : j < ps.length), inR ps[j] ∧ ps[j] ∉ ps.take j

theorem piece_no {ps : List Ce} (j : Nat) (hj : j < ps.length) (h : ¬ (inR ps[j] ∧ ps[j] ∉ ps.take j)) : pieceB ps = false :=
  pieceB_f (fun hk => h ⟨hk.2.1 _ (List.getElem_mem hj), nodup_no hk.2.2.1 j hj⟩)
theorem piece_len {ps : List Ce} (h : ¬ (1 ≤ ps.length ∧ ps.length ≤ 5)) : pieceB ps = false := pieceB_f (fun hk => h hk.1)
set_option maxRecDepth 100000 in
set_option maxHeartbeats 4000000 in
theorem iPieceValid_any (A : Option Addr) (c : Nat) (ps : List Ce) (w : World) (hr : RdC w A ps) (hn : ps.length ≤ maxLen) (hcap : ps.length ≤ c) :
    Calls Try.prog 18 #[.slice A ps.length c] w fun e w' => e = .returned (.bool (pieceB ps)) ∧ Below w.heap.size w w' := by
  unfold maxLen at hn
  by_cases hl : 1 ≤ ps.length ∧ ps.length ≤ 5
  · have HLEN := Lib.hid hl
    obtain ⟨l1, l2⟩ := hl
    go_enter Try.func18, Try.ntmps18
    go_wp2_with (go_at_call 39; refine (in_t _ _ _ _ (by omega) (by omega)).mono ?_; rintro e w' ⟨rfl, rfl⟩)
    go_loopw [17] (fun i wr => ∃ k : Nat, k ≤ ps.length ∧ i = .int .i64 k ∧ Hid (∀ j, j < k → cellOkAt ps j) ∧ Below w.heap.size w wr) (fun i _ => ps.length - (intOf i).toNat)
    case atStart => exact ⟨0, Nat.zero_le _, rfl, fun j h => by omega, Below.refl _ _⟩
    case round =>
      obtain ⟨k, hk, rfl, HK, B1⟩ := hrel
      by_cases hlt : k < ps.length
      · obtain ⟨b, off, rfl, c0, c1⟩ := RdC.at_ (w := wr) (show RdC wr A ps from hr.belo B1) hlt
        obtain ⟨q, hq⟩ : ∃ q, ps[k] = q := ⟨_, rfl⟩
        obtain ⟨x, y⟩ := q
        rw [hq] at c0 c1
        simp only at c0 c1
        have HQ := Lib.hid hq
        clear hq
        have hkc : (k : Int) ≤ (c : Int) := by omega
        have RT : RdC (wr.alloc (.cells #[.int .i64 x, .int .i64 y] 42)) (some ⟨b, off, none⟩) (ps.take k) := RdC.take ((hr.belo B1).alloc _) k
        have hlt' : (ps.take k).length = k := by rw [List.length_take]; omega
        by_cases hx : -9 ≤ x ∧ x ≤ 9
        · obtain ⟨hx1, hx2⟩ := hx
          by_cases hy : -9 ≤ y ∧ y ≤ 9
          · obtain ⟨hy1, hy2⟩ := hy
            have CC := Lib.hid (fun W (R : RdC W (some ⟨b, off, none⟩) (ps.take k)) => by
              have := containsC_any (some ⟨b, off, none⟩) c (ps.take k) (x, y) W R (by omega)
              rw [hlt'] at this; exact this)
            clear hlt'
            cases hm : decide ((x, y) ∈ ps.take k) with
            | false =>
              have HM := Lib.hid hm
              clear hm
              go_wp2_with fail
              have g0 : (wr.alloc (.cells #[.int .i64 x, .int .i64 y] 42)).cell? ⟨wr.heap.size, 0, none⟩ = some (.int .i64 x) := cell_of_row _ _ _ _ _ _ (heap_alloc_new wr _)
              have g1 : (wr.alloc (.cells #[.int .i64 x, .int .i64 y] 42)).cell? ⟨wr.heap.size, 1, none⟩ = some (.int .i64 y) := cell_of_row _ _ _ _ _ _ (heap_alloc_new wr _)
              have gs : wr.heap.size < (wr.alloc (.cells #[.int .i64 x, .int .i64 y] 42)).heap.size := by simp
              have B2 := bl_alloc B1 (.cells #[.int .i64 x, .int .i64 y] 42)
              generalize wr.alloc (.cells #[.int .i64 x, .int .i64 y] 42) = wq at *
              go_region_held3 (fun w' => w'.cell? ⟨wr.heap.size, 0, none⟩ = some (.int .i64 x) ∧ w'.cell? ⟨wr.heap.size, 1, none⟩ = some (.int .i64 y))
                (first | exact ⟨((bcell b3).1 _ _ gs).trans g0, ((bcell b3).1 _ _ gs).trans g1⟩ | exact ⟨g0, g1⟩ | go_keep)
                (first
                  | (go_at_call 39; refine (in_t _ _ _ _ (by omega) (by omega)).mono ?_; rintro e w' ⟨rfl, rfl⟩)
                  | (go_at_call 40; refine (CC.out _ RT.drew).mono ?_; rintro e w3 ⟨rfl, b3⟩; rw [HM.out]))
              go_wp2
              go_roundw
              case rel =>
                refine ⟨k + 1, by omega, by go_num, fun j hj => ?_, bl_go B2.drew b3⟩
                rcases Nat.lt_or_ge j k with h | h
                · exact HK.out j h
                · obtain rfl : j = k := by omega
                  intro hj2
                  rw [HQ.out]
                  exact ⟨⟨hx1, hx2, hy1, hy2⟩, of_decide_eq_false HM.out⟩
              case measure => simp [intOf]; omega
            | true =>
              have HF := Lib.hid (piece_no k hlt (fun h => by rw [HQ.out] at h; exact h.2 (of_decide_eq_true hm)))
              have HM := Lib.hid hm
              clear hm
              go_wp2_with fail
              have g0 : (wr.alloc (.cells #[.int .i64 x, .int .i64 y] 42)).cell? ⟨wr.heap.size, 0, none⟩ = some (.int .i64 x) := cell_of_row _ _ _ _ _ _ (heap_alloc_new wr _)
              have g1 : (wr.alloc (.cells #[.int .i64 x, .int .i64 y] 42)).cell? ⟨wr.heap.size, 1, none⟩ = some (.int .i64 y) := cell_of_row _ _ _ _ _ _ (heap_alloc_new wr _)
              have gs : wr.heap.size < (wr.alloc (.cells #[.int .i64 x, .int .i64 y] 42)).heap.size := by simp
              have B2 := bl_alloc B1 (.cells #[.int .i64 x, .int .i64 y] 42)
              generalize wr.alloc (.cells #[.int .i64 x, .int .i64 y] 42) = wq at *
              go_region_held3 (fun w' => w'.cell? ⟨wr.heap.size, 0, none⟩ = some (.int .i64 x) ∧ w'.cell? ⟨wr.heap.size, 1, none⟩ = some (.int .i64 y))
                (first | exact ⟨((bcell b3).1 _ _ gs).trans g0, ((bcell b3).1 _ _ gs).trans g1⟩ | exact ⟨g0, g1⟩ | go_keep)
                (first
                  | (go_at_call 39; refine (in_t _ _ _ _ (by omega) (by omega)).mono ?_; rintro e w' ⟨rfl, rfl⟩)
                  | (go_at_call 40; refine (CC.out _ RT.drew).mono ?_; rintro e w3 ⟨rfl, b3⟩; rw [HM.out]))
              go_wp2
              go_ret
              exact ⟨ret_b HF.out.symm, bl_go B2.drew b3⟩
          · have HF := Lib.hid (piece_no k hlt (fun h => by rw [HQ.out] at h; exact hy ⟨h.1.2.2.1, h.1.2.2.2⟩))
            have hy' : y < -9 ∨ 9 < y := by omega
            clear hy
            have B2 := bl_alloc B1 (.cells #[.int .i64 x, .int .i64 y] 42)
            clear hlt' RT
            go_wp2_with fail
            go_quiet ((first | (go_at_call 39; exact quietL (in_t _ _ _ _ (by omega) (by omega))) | (go_at_call 39; exact quietL (in_f _ _ _ _ (by omega)))))
            go_wp2
            go_ret
            exact ⟨ret_b HF.out.symm, below_drewN' B2 _⟩
        · have HF := Lib.hid (piece_no k hlt (fun h => by rw [HQ.out] at h; exact hx ⟨h.1.1, h.1.2.1⟩))
          have hx' : x < -9 ∨ 9 < x := by omega
          clear hx
          have B2 := bl_alloc B1 (.cells #[.int .i64 x, .int .i64 y] 42)
          clear hlt' RT
          go_wp2_with fail
          go_quiet ((first | (go_at_call 39; exact quietL (in_t _ _ _ _ (by omega) (by omega))) | (go_at_call 39; exact quietL (in_f _ _ _ _ (by omega)))))
          go_wp2
          go_ret
          exact ⟨ret_b HF.out.symm, below_drewN' B2 _⟩
      · obtain rfl : k = ps.length := by omega
        have hall := fun j (hj : j < ps.length) => HK.out j hj hj
        have HR := Lib.hid (show ∀ q ∈ ps, inR q from fun q hq => by obtain ⟨j, hj, e⟩ := List.getElem_of_mem hq; rw [← e]; exact (hall j hj).1)
        have HN := Lib.hid (nodup_of_take (fun j hj => (hall j hj).2))
        clear HK hall hlt hk
        have hsm : ps.headD (0, 0) ∈ ps := by cases ps with | nil => simp at l1 | cons a l => simp
        have h00 : ps.headD (0, 0) = ps[0] := by cases ps with | nil => simp at l1 | cons a l => rfl
        obtain ⟨b, off, rfl, c0, c1⟩ := RdC.at_ (w := wr) (show RdC wr A ps from hr.belo B1) (k := 0) (by omega)
        simp only [Nat.zero_mul, Nat.add_zero] at c0 c1
        rw [← h00] at c0 c1
        have S0 := SoC.one hsm
        have O0 := (OwnC.one wr (ps.headD (0, 0))).base (base' := w.heap.size) B1.size
        generalize hs0 : ps.headD (0, 0) = s0 at c0 c1 S0 O0
        have HS0 := Lib.hid hs0
        clear hs0 h00 hsm
        have B2 := bl_alloc B1 (.cells #[.int .i64 s0.1, .int .i64 s0.2] 42)
        obtain ⟨wo, hwo⟩ : ∃ wo : World, wo = wr := ⟨_, rfl⟩
        subst hwo
        go_wp2_with fail
        go_loopw [5, 6] (fun v i wr => ∃ (L : List Ce) (k : Nat), k ≤ L.length ∧ i = .int .i64 k ∧ OwnC wr w.heap.size v L ∧ SoC ps s0 L ∧ Hid (∀ j (hj : j < L.length), j < k → ∀ b ∈ ps, adjC b L[j] → b ∈ L) ∧ Below w.heap.size w wr) (fun _ i _ => ps.length - (intOf i).toNat)
        case atStart => exact ⟨[s0], 0, Nat.zero_le _, rfl, O0, S0, fun j hj h => by omega, B2⟩
        case round =>
          clear O0 S0 B2 c0 c1 B1
          obtain ⟨L, k, hk, rfl, OL, SL, HC, B1⟩ := hrel
          have hLle := SL.le
          by_cases hlt : k < L.length
          · obtain ⟨Ak, ck, rfl, hwk⟩ := id OL
            obtain ⟨wo2, hwo2⟩ : ∃ wo : World, wo = wr := ⟨_, rfl⟩
            subst hwo2
            go_wp2_with fail
            go_loopw [5, 52] (fun v i wr => ∃ (N : List Ce) (m : Nat), Hid (∃ M, N = L ++ M) ∧ m ≤ ps.length ∧ i = .int .i64 m ∧ OwnC wr w.heap.size v N ∧ SoC ps s0 N ∧ Hid (∀ j (hj : j < ps.length), j < m → adjC ps[j] L[k] → ps[j] ∈ N) ∧ Below w.heap.size w wr) (fun _ i _ => ps.length - (intOf i).toNat)
            case atStart => exact ⟨L, 0, ⟨[], by simp⟩, Nat.zero_le _, rfl, OL, SL, fun j hj h => by omega, B1⟩
            case round =>
              clear OL B1 hwk
              obtain ⟨N, m, HP, hm, rfl, OM, SM, HM, B1⟩ := hrel
              have hMle := SM.le
              obtain ⟨A3, c3, rfl, hw3⟩ := id OM
              by_cases hmt : m < ps.length
              · have R1 : RdC wr (some ⟨b, off, none⟩) ps := hr.belo B1
                obtain ⟨b', off', hb', c0, c1⟩ := R1.at_ hmt
                obtain ⟨rfl, rfl⟩ : b = b' ∧ off = off' := by injection hb' with e; injection e with e1 e2; exact ⟨e1, e2⟩
                clear hb'
                obtain ⟨q, hq⟩ : ∃ q, ps[m] = q := ⟨_, rfl⟩
                have HQ := Lib.hid hq
                have hqR := HR.out q (by rw [← hq]; exact List.getElem_mem hmt)
                rw [hq] at c0 c1
                clear hq
                obtain ⟨x, y⟩ := q
                simp only at c0 c1
                obtain ⟨x1, x2, y1, y2⟩ := hqR
                simp only at x1 x2 y1 y2
                have hkM : k < N.length := by obtain ⟨M, e⟩ := HP.out; rw [e, List.length_append]; omega
                have ROM : RdC (wr.alloc (.cells #[.int .i64 x, .int .i64 y] 42)) A3 N := Rd.alloc OM.rd _
                obtain ⟨g, goff, rfl, d0, d1⟩ := ROM.at_ hkM
                have hLM : N[k] = L[k] := by obtain ⟨M, e⟩ := HP.out; subst e; exact List.getElem_append_left hlt
                rw [hLM] at d0 d1
                obtain ⟨t, ht⟩ : ∃ t, L[k] = t := ⟨_, rfl⟩
                have htR := HR.out t (by rw [← ht]; exact SL.sub _ (List.getElem_mem hlt))
                have htm : t ∈ N := by rw [← ht, ← hLM]; exact List.getElem_mem hkM
                rw [ht] at d0 d1
                have HT := Lib.hid ht
                clear ht hLM
                obtain ⟨u, v⟩ := t
                simp only at d0 d1
                obtain ⟨u1, u2, v1, v2⟩ := htR
                simp only at u1 u2 v1 v2
                have hkI : (k : Int) < (N.length : Int) := by omega
                have w1 : IntKind.i64.wrap (x - u) = x - u := IntWalk.i64_in _ (by omega)
                have w2 : IntKind.i64.wrap (y - v) = y - v := IntWalk.i64_in _ (by omega)
                have HAD := Lib.hid (adj_sq (x := x) (y := y) (u := u) (v := v) (by omega) (by omega) (by omega) (by omega))
                obtain ⟨p1, p2, -, -, -⟩ := sq_bd (d := x - u) (by omega) (by omega)
                obtain ⟨r1, r2, -, -, -⟩ := sq_bd (d := y - v) (by omega) (by omega)
                have B2 := bl_alloc B1 (.cells #[.int .i64 x, .int .i64 y] 42)
                have CC := Lib.hid (fun W (R : RdC W (some ⟨g, goff, none⟩) N) => containsC_any (some ⟨g, goff, none⟩) c3 N (x, y) W R (by omega))
                cases hnr : ((x - u) * (x - u) + (y - v) * (y - v) == 1) with
                | false =>
                  have HAF := Lib.hid (HAD.out.trans hnr)
                  go_wp2_with fail
                  go_quiet (fail)
                  go_wp2
                  go_roundw
                  case rel =>
                    refine ⟨N, m + 1, HP.out, by omega, by go_num, (OM.alloc _).drewN _, SM, fun j hj hjm hadj => ?_, below_drewN' B2 _⟩
                    rcases Nat.lt_or_ge j m with h | h
                    · exact HM.out j hj h hadj
                    · obtain rfl : j = m := by omega
                      rw [HQ.out, HT.out] at hadj
                      rw [HQ.out]
                      exact absurd hadj (of_decide_eq_false HAF.out)
                  case measure => simp [intOf]; omega
                | true =>
                  have HAT := Lib.hid (of_decide_eq_true (HAD.out.trans hnr))
                  cases hmm : decide ((x, y) ∈ N) with
                  | true =>
                    have HMM := Lib.hid hmm
                    clear hmm
                    go_wp2_with fail
                    go_quiet (fail)
                    go_wp2_with (go_at_call 40; refine (CC.out _ (ROM.drewN _)).mono ?_; rintro e w3 ⟨rfl, b3⟩; rw [HMM.out])
                    go_roundw
                    case rel =>
                      refine ⟨N, m + 1, HP.out, by omega, by go_num, ((OM.alloc _).drewN _).belo b3, SM, fun j hj hjm hadj => ?_, bl_go (below_drewN' B2 _) b3⟩
                      rcases Nat.lt_or_ge j m with h | h
                      · exact HM.out j hj h hadj
                      · obtain rfl : j = m := by omega
                        rw [HQ.out, HT.out] at hadj
                        rw [HQ.out]
                        exact of_decide_eq_true HMM.out
                    case measure => simp [intOf]; omega
                  | false =>
                    have HMM := Lib.hid hmm
                    clear hmm
                    go_wp2_with fail
                    go_quiet (fail)
                    go_wp2_with (first
                      | (go_at_call 40; refine (CC.out _ (ROM.drewN _)).mono ?_; rintro e w3 ⟨rfl, b3⟩; rw [HMM.out]; have z0 : w3.cell? ⟨wr.heap.size, 0, none⟩ = some (.int .i64 x) := (b3.cell (p := ⟨wr.heap.size, 0, none⟩) (by simp)).trans (cell_of_row _ _ _ _ _ _ (heap_alloc_new wr _)); have z1 : w3.cell? ⟨wr.heap.size, 1, none⟩ = some (.int .i64 y) := (b3.cell (p := ⟨wr.heap.size, 1, none⟩) (by simp)).trans (cell_of_row _ _ _ _ _ _ (heap_alloc_new wr _)); have OWN3 := ((OM.alloc _).drewN _).belo b3; have B3 := bl_go (below_drewN' B2 _) b3; have s3 := B3.size)
                      | (at_builtin; refine app_cell _ rfl _ _ rfl w.heap.size _ N rfl OWN3 x y rfl (by omega) s3 ?_; intro A' c' w4 hown4 hb4))
                    go_roundw
                    case rel =>
                      refine ⟨N ++ [(x, y)], m + 1, ?_, by omega, by go_num, by simpa using hown4, SM.more htm (by rw [← HQ.out]; exact List.getElem_mem hmt) HAT.out (of_decide_eq_false HMM.out), fun j hj hjm hadj => ?_, (bl_alloc B3 _).trans hb4⟩
                      · obtain ⟨M, e⟩ := HP.out
                        exact ⟨M ++ [(x, y)], by rw [e, List.append_assoc]⟩
                      · rcases Nat.lt_or_ge j m with h | h
                        · exact List.mem_append_left _ (HM.out j hj h hadj)
                        · obtain rfl : j = m := by omega
                          rw [HQ.out]
                          exact List.mem_append_right _ (by simp)
                    case measure => simp [intOf]; omega
              · obtain rfl : m = ps.length := by omega
                go_wp2_with fail
                go_roundw
                case rel =>
                  refine ⟨N, k + 1, ?_, by go_num, OM, SM, fun j hj hjk b' hb' hadj => ?_, B1⟩
                  · obtain ⟨M, e⟩ := HP.out
                    rw [e, List.length_append]; omega
                  · obtain ⟨M, e⟩ := HP.out
                    subst e
                    rcases Nat.lt_or_ge j k with h | h
                    · rw [List.getElem_append_left (by omega)] at hadj
                      exact List.mem_append_left _ (HC.out j (by omega) h b' hb' hadj)
                    · obtain rfl : j = k := by omega
                      rw [List.getElem_append_left hlt] at hadj
                      obtain ⟨i, hi, e2⟩ := List.getElem_of_mem hb'
                      rw [← e2] at hadj ⊢
                      exact HM.out i hi hi hadj
                case measure => simp [intOf]; omega
          · obtain rfl : k = L.length := by omega
            have HF := Lib.hid (piece_end HLEN.out HR.out HN.out (by rw [HS0.out]; exact SL) (fun a ha b hb hab => by obtain ⟨j, hj, e⟩ := List.getElem_of_mem ha; exact HC.out j hj hj b hb (by rw [e]; exact hab)))
            obtain ⟨A2, c2, rfl, hw2⟩ := id OL
            go_wp2
            go_ret
            exact ⟨ret_b HF.out.symm, B1⟩
  · have HF := Lib.hid (piece_len hl)
    have hl' : (ps.length : Int) < 1 ∨ 5 < (ps.length : Int) := by omega
    clear hl
    go_enter Try.func18, Try.ntmps18
    go_wp2_with (go_at_call 39; refine (in_f _ _ _ _ hl').mono ?_; rintro e w' ⟨rfl, rfl⟩)
    go_ret
    exact ⟨ret_b HF.out.symm, Below.refl _ _⟩
end Go.Proofs.Ytohbnogmeldmpaa

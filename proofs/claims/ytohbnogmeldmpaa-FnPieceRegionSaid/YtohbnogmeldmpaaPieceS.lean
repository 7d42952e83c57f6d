
/- Contract: the reference's PieceValid. -/
import Derived.Test.YtohbnogmeldmpaaPieceV
import Derived.Test.YtohbnogmeldmpaaBw
namespace Go.Proofs.Ytohbnogmeldmpaa
open Go.RowKit

/-- the state of a sweep that began with L0 -/
def StS (ps L0 N : List Ce) (m j : Nat) : Prop :=
  (N = L0 ∧ (∀ j' (h : j' < ps.length), j' < m → ∀ a ∈ L0, adjC ps[j'] a → ps[j'] ∈ L0) ∧ (∀ i (h : i < L0.length) (hm : m < ps.length), i < j → adjC ps[m] L0[i] → ps[m] ∈ L0)) ∨ (¬ closedC ps L0 ∧ L0.length < N.length)
theorem StS.start (ps L0 : List Ce) : StS ps L0 L0 0 0 := .inl ⟨rfl, fun _ _ h => by omega, fun _ _ _ h => by omega⟩
theorem StS.skip {ps L0 N : List Ce} {m j : Nat} (h : StS ps L0 N m j) (hm : m < ps.length) (hj : j < N.length) (hno : adjC ps[m] N[j] → ps[m] ∈ N) : StS ps L0 N m (j + 1) := by
  rcases h with ⟨e, h1, h2⟩ | h
  · subst e
    refine .inl ⟨rfl, h1, fun i hi hm2 hij hadj => ?_⟩
    rcases Nat.lt_or_ge i j with h3 | h3
    · exact h2 i hi hm2 h3 hadj
    · obtain rfl : i = j := by omega
      exact hno hadj
  · exact .inr h
theorem StS.app {ps L0 N : List Ce} {m j : Nat} (h : StS ps L0 N m j) (hm : m < ps.length) (hj : j < N.length) (hadj : adjC ps[m] N[j]) (hn : ps[m] ∉ N) : StS ps L0 (N ++ [ps[m]]) m (j + 1) := by
  rcases h with ⟨e, _, _⟩ | ⟨h1, h2⟩
  · subst e
    exact .inr ⟨fun hc => hn (hc _ (List.getElem_mem hj) _ (List.getElem_mem hm) hadj), by simp⟩
  · exact .inr ⟨h1, by rw [List.length_append]; omega⟩
theorem StS.next {ps L0 N : List Ce} {m j : Nat} (h : StS ps L0 N m j) (hm : m < ps.length) (hj : N.length ≤ j) : StS ps L0 N (m + 1) 0 := by
  rcases h with ⟨e, h1, h2⟩ | h
  · subst e
    refine .inl ⟨rfl, fun j' hj' hjm a ha hadj => ?_, fun _ _ _ h => by omega⟩
    rcases Nat.lt_or_ge j' m with h3 | h3
    · exact h1 j' hj' h3 a ha hadj
    · obtain rfl : j' = m := by omega
      obtain ⟨i, hi, e⟩ := List.getElem_of_mem ha
      exact h2 i hi hm (by omega) (by rw [e]; exact hadj)
  · exact .inr h
theorem StS.done {ps L0 N : List Ce} {m n : Nat} (h : StS ps L0 N m 0) (hm : ps.length ≤ m) (hc : closedC ps L0 ∨ n + 1 ≤ L0.length) : closedC ps N ∨ n + 1 + 1 ≤ N.length := by
  rcases h with ⟨e, h1, _⟩ | ⟨h1, h2⟩
  · subst e
    left
    intro a ha b hb hadj
    obtain ⟨i, hi, e⟩ := List.getElem_of_mem hb
    rw [← e] at hadj ⊢
    exact h1 i hi (by omega) a ha hadj
  · rcases hc with hc | hc
    · exact absurd hc h1
    · right; omega
set_option maxRecDepth 100000 in
set_option maxHeartbeats 4000000 in
theorem sPieceValid_any (A : Option Addr) (c : Nat) (ps : List Ce) (w : World) (hr : RdC w A ps) (hn : ps.length ≤ maxLen) (hcap : ps.length ≤ c) :
    Calls Try.prog 8 #[.slice A ps.length c] w fun e w' => e = .returned (.bool (pieceB ps)) ∧ Below w.heap.size w w' := by
  unfold maxLen at hn
  by_cases hl : 1 ≤ ps.length ∧ ps.length ≤ 5
  · have HLEN := Lib.hid hl
    obtain ⟨l1, l2⟩ := hl
    go_enter Try.func8, Try.ntmps8
    go_wp2_with (go_at_call 24; refine (l1in_t _ _ _ _ (by omega) (by omega)).mono ?_; rintro e w' ⟨rfl, rfl⟩)
    go_loopw [3] (fun i wr => ∃ k : Nat, k ≤ ps.length ∧ i = .int .i64 k ∧ Hid (∀ j, j < k → cellOkAt ps j) ∧ Below w.heap.size w wr) (fun i _ => ps.length - (intOf i).toNat)
    case atStart => exact ⟨0, Nat.zero_le _, rfl, fun j h => by omega, Below.refl _ _⟩
    case round =>
      obtain ⟨k, hk, rfl, HK, B1⟩ := hrel
      by_cases hlt : k < ps.length
      · have R1 : RdC wr A ps := hr.belo B1
        obtain ⟨b, off, rfl, c0, c1⟩ := R1.at_ hlt
        obtain ⟨q, hq⟩ : ∃ q, ps[k] = q := ⟨_, rfl⟩
        obtain ⟨x, y⟩ := q
        rw [hq] at c0 c1
        simp only at c0 c1
        have HQ := Lib.hid hq
        clear hq
        have hkc : (k : Int) ≤ (c : Int) := by omega
        have hkl : (k : Int) < (ps.length : Int) := by omega
        have RT : RdC wr (some ⟨b, off, none⟩) (ps.take k) := RdC.take R1 k
        have hlt' : (ps.take k).length = k := by rw [List.length_take]; omega
        by_cases hx : -9 ≤ x ∧ x ≤ 9
        · obtain ⟨hx1, hx2⟩ := hx
          by_cases hy : -9 ≤ y ∧ y ≤ 9
          · obtain ⟨hy1, hy2⟩ := hy
            have CC := Lib.hid (fun W (R : RdC W (some ⟨b, off, none⟩) (ps.take k)) => by
              have := l8Has_any (some ⟨b, off, none⟩) c (ps.take k) (x, y) W R (by omega)
              rw [hlt'] at this; exact this)
            clear hlt'
            have gs := World.block_lt_of_cell? wr _ c0
            simp only at gs
            cases hm : decide ((x, y) ∈ ps.take k) with
            | false =>
              have HM := Lib.hid hm
              clear hm
              go_wp2_with fail
              go_region_held3 (fun w' => w'.cell? ⟨b, off + k * 2, none⟩ = some (.int .i64 x) ∧ w'.cell? ⟨b, off + k * 2 + 1, none⟩ = some (.int .i64 y))
                (first | exact ⟨((bcell b3).1 _ _ gs).trans c0, ((bcell b3).1 _ _ gs).trans c1⟩ | exact ⟨c0, c1⟩ | go_keep)
                (first
                  | (go_at_call 24; refine (l1in_t _ _ _ _ (by omega) (by omega)).mono ?_; rintro e w' ⟨rfl, rfl⟩)
                  | (go_at_call 25; refine (CC.out _ RT.drew).mono ?_; rintro e w3 ⟨rfl, b3⟩; rw [HM.out]))
              go_wp2
              go_roundw
              case rel =>
                refine ⟨k + 1, by omega, by go_num, fun j hj => ?_, bl_go B1.drew b3⟩
                rcases Nat.lt_or_ge j k with h | h
                · exact HK.out j h
                · obtain rfl : j = k := by omega
                  intro hj2
                  rw [HQ.out]
                  exact ⟨⟨hx1, hx2, hy1, hy2⟩, of_decide_eq_false HM.out⟩
              case measure => simp [intOf]; omega
            | true =>
              have HF := Lib.hid (piece_no k hlt (fun h => by rw [HQ.out] at h; exact h.2 (of_decide_eq_true hm)))
              have HM := Lib.hid hm
              clear hm
              go_wp2_with fail
              go_region_held3 (fun w' => w'.cell? ⟨b, off + k * 2, none⟩ = some (.int .i64 x) ∧ w'.cell? ⟨b, off + k * 2 + 1, none⟩ = some (.int .i64 y))
                (first | exact ⟨((bcell b3).1 _ _ gs).trans c0, ((bcell b3).1 _ _ gs).trans c1⟩ | exact ⟨c0, c1⟩ | go_keep)
                (first
                  | (go_at_call 24; refine (l1in_t _ _ _ _ (by omega) (by omega)).mono ?_; rintro e w' ⟨rfl, rfl⟩)
                  | (go_at_call 25; refine (CC.out _ RT.drew).mono ?_; rintro e w3 ⟨rfl, b3⟩; rw [HM.out]))
              go_wp2
              go_ret
              exact ⟨ret_b HF.out.symm, bl_go B1.drew b3⟩
          · have HF := Lib.hid (piece_no k hlt (fun h => by rw [HQ.out] at h; exact hy ⟨h.1.2.2.1, h.1.2.2.2⟩))
            have hy' : y < -9 ∨ 9 < y := by omega
            clear hy
            clear hlt' RT
            go_wp2_with fail
            go_quiet ((first | (go_at_call 24; exact quietL (l1in_t _ _ _ _ (by omega) (by omega))) | (go_at_call 24; exact quietL (l1in_f _ _ _ _ (by omega)))))
            go_wp2
            go_ret
            exact ⟨ret_b HF.out.symm, below_drewN' B1 _⟩
        · have HF := Lib.hid (piece_no k hlt (fun h => by rw [HQ.out] at h; exact hx ⟨h.1.1, h.1.2.1⟩))
          have hx' : x < -9 ∨ 9 < x := by omega
          clear hx
          clear hlt' RT
          go_wp2_with fail
          go_quiet ((first | (go_at_call 24; exact quietL (l1in_t _ _ _ _ (by omega) (by omega))) | (go_at_call 24; exact quietL (l1in_f _ _ _ _ (by omega)))))
          go_wp2
          go_ret
          exact ⟨ret_b HF.out.symm, below_drewN' B1 _⟩
      · obtain rfl : k = ps.length := by omega
        have hall := fun j (hj : j < ps.length) => HK.out j hj hj
        have HR := Lib.hid (show ∀ q ∈ ps, inR q from fun q hq => by obtain ⟨j, hj, e⟩ := List.getElem_of_mem hq; rw [← e]; exact (hall j hj).1)
        have HN := Lib.hid (nodup_of_take (fun j hj => (hall j hj).2))
        clear HK hall hlt hk
        have hsm : ps.headD (0, 0) ∈ ps := by cases ps with | nil => simp at l1 | cons a l => simp
        have h00 : ps.headD (0, 0) = ps[0] := by cases ps with | nil => simp at l1 | cons a l => rfl
        obtain ⟨b, off, rfl, c0, c1⟩ := RdC.at_ (w := wr) (show RdC wr A ps from hr.belo B1) (k := 0) (by omega)
        simp only [Nat.zero_mul, Nat.add_zero] at c0 c1
        rw [← h00] at c0 c1
        have S0 := SoC.one hsm
        have O0 := (OwnC.one wr (ps.headD (0, 0))).base (base' := w.heap.size) B1.size
        generalize hs0 : ps.headD (0, 0) = s0 at c0 c1 S0 O0
        have HS0 := Lib.hid hs0
        clear hs0 h00 hsm
        have B2 := bl_alloc B1 (.cells #[.int .i64 s0.1, .int .i64 s0.2] 42)
        obtain ⟨wo, hwo⟩ : ∃ wo : World, wo = wr := ⟨_, rfl⟩
        subst hwo
        go_wp2_with fail
        go_loopw [4, 5] (fun v i wr => ∃ (L : List Ce) (n : Nat), n ≤ ps.length ∧ i = .int .i64 n ∧ OwnC wr w.heap.size v L ∧ SoC ps s0 L ∧ Hid (closedC ps L ∨ n + 1 ≤ L.length) ∧ Below w.heap.size w wr) (fun _ i _ => ps.length - (intOf i).toNat)
        case atStart => exact ⟨[s0], 0, Nat.zero_le _, rfl, O0, S0, .inr (by simp), B2⟩
        case round =>
          clear O0 S0 B2 c0 c1 B1
          obtain ⟨L, n, hk, rfl, OL, SL, HC, B1⟩ := hrel
          by_cases hlt : n < ps.length
          · obtain ⟨Ak, ck, rfl, hwk⟩ := id OL
            obtain ⟨wo2, hwo2⟩ : ∃ wo : World, wo = wr := ⟨_, rfl⟩
            subst hwo2
            go_wp2_with fail
            go_loopw [4, 6] (fun v i wr => ∃ (N : List Ce) (m : Nat), m ≤ ps.length ∧ i = .int .i64 m ∧ OwnC wr w.heap.size v N ∧ SoC ps s0 N ∧ Hid (StS ps L N m 0) ∧ Below w.heap.size w wr) (fun _ i _ => ps.length - (intOf i).toNat)
            case atStart => exact ⟨L, 0, Nat.zero_le _, rfl, OL, SL, StS.start ps L, B1⟩
            case round =>
              clear OL B1 hwk
              obtain ⟨N, m, hm, rfl, OM, SM, HM, B1⟩ := hrel
              by_cases hmt : m < ps.length
              · obtain ⟨A3, c3, rfl, hw3⟩ := id OM
                obtain ⟨wo3, hwo3⟩ : ∃ wo : World, wo = wr := ⟨_, rfl⟩
                subst hwo3
                obtain ⟨q, hq⟩ : ∃ q, ps[m] = q := ⟨_, rfl⟩
                have HQ := Lib.hid hq
                have hqR := HR.out q (by rw [← hq]; exact List.getElem_mem hmt)
                have hqm : q ∈ ps := by rw [← hq]; exact List.getElem_mem hmt
                clear hq
                obtain ⟨x, y⟩ := q
                obtain ⟨x1, x2, y1, y2⟩ := hqR
                simp only at x1 x2 y1 y2
                go_wp2_with fail
                go_loopw [4, 7] (fun v i wr => ∃ (N : List Ce) (k : Nat), k ≤ N.length ∧ i = .int .i64 k ∧ OwnC wr w.heap.size v N ∧ SoC ps s0 N ∧ Hid (StS ps L N m k) ∧ Below w.heap.size w wr) (fun _ i _ => ps.length - (intOf i).toNat)
                case atStart => exact ⟨N, 0, Nat.zero_le _, rfl, OM, SM, HM, B1⟩
                case round =>
                  clear OM B1 hw3 HM SM
                  obtain ⟨N, k, hkN, rfl, OM, SM, HM, B1⟩ := hrel
                  have hMle := SM.le
                  obtain ⟨A4, c4, rfl, hw4⟩ := id OM
                  by_cases hkM : k < N.length
                  · have R1 : RdC wr (some ⟨b, off, none⟩) ps := hr.belo B1
                    obtain ⟨b', off', hb', c0, c1⟩ := R1.at_ hmt
                    obtain ⟨rfl, rfl⟩ : b = b' ∧ off = off' := by injection hb' with e; injection e with e1 e2; exact ⟨e1, e2⟩
                    clear hb'
                    rw [HQ.out] at c0 c1
                    simp only at c0 c1
                    have ROM : RdC wr A4 N := OM.rd
                    obtain ⟨g, goff, rfl, d0, d1⟩ := ROM.at_ hkM
                    obtain ⟨t, ht⟩ : ∃ t, N[k] = t := ⟨_, rfl⟩
                    have htR := HR.out t (by rw [← ht]; exact SM.sub _ (List.getElem_mem hkM))
                    have htm : t ∈ N := by rw [← ht]; exact List.getElem_mem hkM
                    rw [ht] at d0 d1
                    have HT := Lib.hid ht
                    clear ht
                    obtain ⟨u, v⟩ := t
                    simp only at d0 d1
                    obtain ⟨u1, u2, v1, v2⟩ := htR
                    simp only at u1 u2 v1 v2
                    have hkI : (k : Int) < (N.length : Int) := by omega
                    have hmI : (m : Int) < (ps.length : Int) := by omega
                    have gs := World.block_lt_of_cell? wr _ c0
                    have gt := World.block_lt_of_cell? wr _ d0
                    simp only at gs gt
                    have CC := Lib.hid (fun W (R : RdC W (some ⟨g, goff, none⟩) N) => l8Has_any (some ⟨g, goff, none⟩) c4 N (x, y) W R (by omega))
                    have L0 : ∀ z : BW wr, z.wo.cell? ⟨b, off + m * 2, none⟩ = some (.int .i64 x) := fun z => z.cell gs c0
                    have L1 : ∀ z : BW wr, z.wo.cell? ⟨b, off + m * 2 + 1, none⟩ = some (.int .i64 y) := fun z => z.cell gs c1
                    have L2 : ∀ z : BW wr, z.wo.cell? ⟨g, goff + k * 2, none⟩ = some (.int .i64 u) := fun z => z.cell gt d0
                    have L3 : ∀ z : BW wr, z.wo.cell? ⟨g, goff + k * 2 + 1, none⟩ = some (.int .i64 v) := fun z => z.cell gt d1
                    cases hnr : nearB (x, y) (u, v) with
                    | false =>
                      have HNB := Lib.hid hnr
                      clear hnr
                      go_wp2_with fail
                      (refine region_bw (by kernel_rfl) (by kernel_rfl) ?_; (repeat (first | go_big_quiet_skip | (go_big_quiet_want; go_big_quiet_op; first | go_big_quiet_on | (refine ⟨.bool false, fun zz => ?_, ?_⟩; (go_at_call 26; exact zz.on' (l8Near_any (x, y) (u, v) _ ⟨x1, x2, y1, y2⟩ ⟨u1, u2, v1, v2⟩) (congrArg Value.bool HNB.out)); go_big_quiet_on)))); refine wpQuiet_nil ?_; intro wz hw'; obtain ⟨zw, hw''⟩ := hw'; subst hw'')
                      go_wp2
                      go_roundw
                      case rel =>
                        refine ⟨N, k + 1, by omega, by go_num, OM.belo zw.ok, SM, HM.out.skip hmt hkM (fun hadj => ?_), bl_go B1 zw.ok⟩
                        rw [HQ.out, HT.out] at hadj
                        exact absurd hadj (of_decide_eq_false HNB.out)
                      case measure => simp [intOf]; omega
                    | true =>
                      have HNB := Lib.hid hnr
                      clear hnr
                      cases hmm : decide ((x, y) ∈ N) with
                      | true =>
                        have HMM := Lib.hid hmm
                        clear hmm
                        go_wp2_with fail
                        (refine region_bw (by kernel_rfl) (by kernel_rfl) ?_; (repeat (first | go_big_quiet_skip | (go_big_quiet_want; go_big_quiet_op; first | go_big_quiet_on | (refine ⟨.bool true, fun zz => ?_, ?_⟩; (go_at_call 26; exact zz.on' (l8Near_any (x, y) (u, v) _ ⟨x1, x2, y1, y2⟩ ⟨u1, u2, v1, v2⟩) (congrArg Value.bool HNB.out)); go_big_quiet_on) | (refine ⟨.bool true, fun zz => ?_, ?_⟩; (go_at_call 25; exact zz.on' (CC.out _ (ROM.belo zz.ok)) (congrArg Value.bool HMM.out)); go_big_quiet_on)))); refine wpQuiet_nil ?_; intro wz hw'; obtain ⟨zw, hw''⟩ := hw'; subst hw'')
                        go_wp2
                        go_roundw
                        case rel =>
                          refine ⟨N, k + 1, by omega, by go_num, OM.belo zw.ok, SM, HM.out.skip hmt hkM (fun hadj => ?_), bl_go B1 zw.ok⟩
                          rw [HQ.out]
                          exact of_decide_eq_true HMM.out
                        case measure => simp [intOf]; omega
                      | false =>
                        have HMM := Lib.hid hmm
                        clear hmm
                        go_wp2_with fail
                        (refine region_bw (by kernel_rfl) (by kernel_rfl) ?_; (repeat (first | go_big_quiet_skip | (go_big_quiet_want; go_big_quiet_op; first | go_big_quiet_on | (refine ⟨.bool true, fun zz => ?_, ?_⟩; (go_at_call 26; exact zz.on' (l8Near_any (x, y) (u, v) _ ⟨x1, x2, y1, y2⟩ ⟨u1, u2, v1, v2⟩) (congrArg Value.bool HNB.out)); go_big_quiet_on) | (refine ⟨.bool false, fun zz => ?_, ?_⟩; (go_at_call 25; exact zz.on' (CC.out _ (ROM.belo zz.ok)) (congrArg Value.bool HMM.out)); go_big_quiet_on)))); refine wpQuiet_nil ?_; intro wz hw'; obtain ⟨zw, hw''⟩ := hw'; subst hw'')
                        have e0 := L0 zw
                        have e1 := L1 zw
                        have B3 := bl_go B1 zw.ok
                        have OWN3 := OM.belo zw.ok
                        have s3 := B3.size
                        go_wp2_with (at_builtin; refine app_cell _ rfl _ _ rfl w.heap.size _ N rfl OWN3 x y rfl (by omega) s3 ?_; intro A' c' w4 hown4 hb4)
                        go_roundw
                        case rel =>
                          refine ⟨N ++ [(x, y)], k + 1, by rw [List.length_append]; omega, by go_num, by simpa using hown4, SM.more htm (by rw [← HQ.out]; exact List.getElem_mem hmt) (of_decide_eq_true HNB.out) (of_decide_eq_false HMM.out), ?_, (bl_alloc B3 _).trans hb4⟩
                          have h5 := HM.out.app hmt hkM (by rw [HQ.out, HT.out]; exact of_decide_eq_true HNB.out) (by rw [HQ.out]; exact of_decide_eq_false HMM.out)
                          rw [HQ.out] at h5
                          exact h5
                        case measure => simp [intOf]; omega
                  · obtain rfl : k = N.length := by omega
                    go_wp2_with fail
                    go_roundw
                    case rel => exact ⟨N, m + 1, by omega, by go_num, OM, SM, HM.out.next hmt (Nat.le_refl _), B1⟩
                    case measure => simp [intOf]; omega
              · obtain rfl : m = ps.length := by omega
                go_wp2_with fail
                go_roundw
                case rel => exact ⟨N, n + 1, by omega, by go_num, OM, SM, HM.out.done (Nat.le_refl _) HC.out, B1⟩
                case measure => simp [intOf]; omega
          · obtain rfl : n = ps.length := by omega
            have hle := SL.le
            have HF := Lib.hid (piece_end HLEN.out HR.out HN.out (by rw [HS0.out]; exact SL) (HC.out.resolve_right (by omega)))
            obtain ⟨A2, c2, rfl, hw2⟩ := id OL
            go_wp2
            go_ret
            exact ⟨ret_b HF.out.symm, B1⟩
  · have HF := Lib.hid (piece_len hl)
    have hl' : (ps.length : Int) < 1 ∨ 5 < (ps.length : Int) := by omega
    clear hl
    go_enter Try.func8, Try.ntmps8
    go_wp2_with (go_at_call 24; refine (l1in_f _ _ _ _ hl').mono ?_; rintro e w' ⟨rfl, rfl⟩)
    go_ret
    exact ⟨ret_b HF.out.symm, Below.refl _ _⟩
end Go.Proofs.Ytohbnogmeldmpaa

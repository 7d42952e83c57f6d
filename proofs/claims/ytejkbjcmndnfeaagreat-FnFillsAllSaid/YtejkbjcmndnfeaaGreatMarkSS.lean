
/- Lists of lists of cells: equal; marks in each of their own. -/
import Derived.Test.YtejkbjcmndnfeaaGreatFormI
import Derived.Test.YtejkbjcmndnfeaaGreatFormT
import Derived.Test.YtejkbjcmndnfeaaGreatCellMark
namespace Go.Proofs.YtejkbjcmndnfeaaGreat
open Go.RowKit

/-- a slice that reads as lists of cells -/
def RdSN (w : World) (A : Option Addr) (pss : List (List Ce)) : Prop :=
  ∀ k (h : k < pss.length), ∃ (b off : Nat) (A' : Option Addr) (c' : Nat), A = some ⟨b, off, none⟩ ∧ w.cell? ⟨b, off + k, none⟩ = some (.slice A' pss[k].length c') ∧ pss[k].length ≤ maxLen ∧ RdC w A' pss[k]
theorem RdSN.belo {w w' : World} {A : Option Addr} {pss : List (List Ce)} (h : RdSN w A pss) (hb : Below w.heap.size w w') : RdSN w' A pss := fun k hk => by
  obtain ⟨b, off, A', c', e, h1, h3, h4⟩ := h k hk
  exact ⟨b, off, A', c', e, ((bcell hb).1 _ _ (World.block_lt_of_cell? w _ h1)).trans h1, h3, h4.belo hb⟩
theorem rd_cellE {w : World} {A : Option Addr} {xs : List Value} (h : Rd w A xs) {k : Nat} {x : Value} (hk : xs[k]? = some x) : ∃ b off, A = some ⟨b, off, none⟩ ∧ w.cell? ⟨b, off + k, none⟩ = some x := by
  obtain ⟨ad, e, hc⟩ := h (by rintro rfl; simp at hk)
  have h0 : ∃ y, xs[0]? = some y := by
    cases xs with
    | nil => simp at hk
    | cons a l => exact ⟨a, rfl⟩
  obtain ⟨y, hy⟩ := h0
  have h1 := hc 0 _ hy
  rw [add_zero'] at h1
  have hs := World.cell?_spot h1
  obtain ⟨b, off, spot⟩ := ad
  simp only at hs
  subst hs
  have h2 := hc k _ hk
  rw [add_off] at h2
  exact ⟨b, off, e, h2⟩
theorem RdSN.ofR {w : World} {A : Option Addr} {xs : List Value} {pss : List (List Ce)} (hr : Rd w A xs) (h : HeadsR w xs pss) : RdSN w A pss := fun k hk => by
  obtain ⟨B, c', h1, -, h3, h4⟩ := h.2 k hk
  obtain ⟨b, off, e, hc⟩ := rd_cellE hr h1
  exact ⟨b, off, B, c', e, hc, by unfold maxLen; omega, h4⟩
theorem RdSN.ofN {w : World} {A : Option Addr} {xs : List Value} {pss : List (List Ce)} (hr : Rd w A xs) (h : HeadsN w xs pss) : RdSN w A pss := fun k hk => by
  obtain ⟨B, c', h1, h3, h4⟩ := h.2 k hk
  obtain ⟨b, off, e, hc⟩ := rd_cellE hr h1
  exact ⟨b, off, B, c', e, hc, by unfold maxLen; omega, h4⟩
set_option maxHeartbeats 2000000 in
theorem eqCellSN_t (A A' : Option Addr) (c c' : Nat) (pss : List (List Ce)) (w : World) (hr : RdSN w A pss) (hr' : RdSN w A' pss) (hn : pss.length ≤ maxLen) :
    Calls Tryz.prog 25 #[.slice A pss.length c, .slice A' pss.length c'] w fun e w' => e = .returned (.bool true) ∧ Below w.heap.size w w' := by
  unfold maxLen at hn
  go_enter Tryz.func25, Tryz.ntmps25
  go_wp2_with fail
  go_loopw [5] (fun i wr => ∃ k : Nat, k ≤ pss.length ∧ i = .int .i64 k ∧ Below w.heap.size w wr) (fun i _ => pss.length - (intOf i).toNat)
  case atStart => exact ⟨0, Nat.zero_le _, rfl, Below.refl _ _⟩
  case round =>
    obtain ⟨k, hk, rfl, hbel⟩ := hrel
    by_cases hlt : k < pss.length
    · obtain ⟨b, off, A1, c1, rfl, h1, h3, h4⟩ := (hr.belo hbel) k hlt
      obtain ⟨g, goff, A2, c2, rfl, k1, -, k4⟩ := (hr'.belo hbel) k hlt
      generalize pss[k] = ps at h1 h3 h4 k1 k4
      have gs := World.block_lt_of_cell? wr _ h1
      have gt := World.block_lt_of_cell? wr _ k1
      simp only at gs gt
      have L0 : ∀ z : BW wr, z.wo.cell? ⟨b, off + k, none⟩ = some (.slice A1 ps.length c1) := fun z => z.cell gs h1
      have L1 : ∀ z : BW wr, z.wo.cell? ⟨g, goff + k, none⟩ = some (.slice A2 ps.length c2) := fun z => z.cell gt k1
      go_wp2_with fail
      (refine region_bw (by kernel_rfl) (by kernel_rfl) ?_; (repeat (first | go_big_quiet_skip | (go_big_quiet_want; go_big_quiet_op; first | go_big_quiet_on | (refine ⟨.bool true, fun zz => ?_, ?_⟩; (go_at_call 86; exact zz.on (eqCellS_t _ _ _ _ ps _ (h4.belo zz.ok) (k4.belo zz.ok) h3)); go_big_quiet_on)))); refine wpQuiet_nil ?_; intro wz hw'; obtain ⟨zw, hw''⟩ := hw'; subst hw'')
      go_wp2
      go_roundw
      case rel => exact ⟨k + 1, by omega, by go_num, bl_go hbel zw.ok⟩
      case measure => simp [intOf]; omega
    · go_wp2_with fail
      go_ret
      exact ⟨rfl, hbel⟩
/-! ### Rows that may be written, each in a block of its own -/
def RowsW (w : World) (lo : Nat) (A : Option Addr) (xs : List Value) (R : List (List Value)) : Prop :=
  xs.length = R.length ∧ ∀ k (h : k < R.length), ∃ gk nk, xs[k]? = some (.slice (some ⟨gk, 0, none⟩) nk nk) ∧ R[k].length = nk * 2 ∧ Wr w lo 89 (some ⟨gk, 0, none⟩) R[k] ∧ (∀ ad, A = some ad → ad.block ≠ gk) ∧ gk < w.heap.size ∧ ∀ j, j < k → ∀ gj n c, xs[j]? = some (.slice (some ⟨gj, 0, none⟩) n c) → gj < gk
theorem RowsW.belo {w w' : World} {lo : Nat} {A : Option Addr} {xs : List Value} {R : List (List Value)} (h : RowsW w lo A xs R) (hb : Below w.heap.size w w') : RowsW w' lo A xs R :=
  ⟨h.1, fun k hk => by
    obtain ⟨gk, nk, a1, a2, a3, a4, a5, a6⟩ := h.2 k hk
    exact ⟨gk, nk, a1, a2, a3.belo hb, a4, Nat.lt_of_lt_of_le a5 hb.size, a6⟩⟩
theorem RowsW.elder {w w' : World} {lo : Nat} {A A' : Option Addr} {xs : List Value} {R : List (List Value)} (h : RowsW w lo A xs R) (hg : w.grownBy w' (A'.map (·.block))) (hA : ∀ ad, A' = some ad → ad.block < lo) : RowsW w' lo A xs R :=
  ⟨h.1, fun k hk => by
    obtain ⟨gk, nk, a1, a2, a3, a4, a5, a6⟩ := h.2 k hk
    exact ⟨gk, nk, a1, a2, a3.elder hg hA, a4, Nat.lt_of_lt_of_le a5 hg.size, a6⟩⟩
theorem RowsW.of {w : World} {lo : Nat} {A : Option Addr} {xs : List Value} {F : List (List Ce)} (hl : xs.length = F.length) (h : Fresh w lo F.length A xs F) : RowsW w lo A xs (F.map cellsV) :=
  ⟨by rw [List.length_map]; exact hl, fun k hk => by
    have hkF : k < F.length := by simpa using hk
    obtain ⟨gk, a1, a2, a3, a4, a5⟩ := h k hkF hkF
    rw [List.getElem_map]
    exact ⟨gk, _, a1, cellsV_len _, a2, a3, a4, a5⟩⟩
theorem RowsW.mark {w w' : World} {lo i gi ni : Nat} {A : Option Addr} {xs : List Value} {R : List (List Value)} (h : RowsW w lo A xs R) (hi : xs[i]? = some (.slice (some ⟨gi, 0, none⟩) ni ni)) {r : List Value} (hr : r.length = ni * 2) (hw : Wr w' lo 89 (some ⟨gi, 0, none⟩) r)
    (hg : w.grownBy w' (some gi)) : RowsW w' lo A xs (R.set i r) :=
  ⟨by rw [List.length_set]; exact h.1, fun k hk => by
    rw [List.length_set] at hk
    obtain ⟨gk, nk, a1, a2, a3, a4, a5, a6⟩ := h.2 k hk
    rw [List.getElem_set]
    by_cases hik : i = k
    · subst hik
      rw [hi] at a1
      injection a1 with a1
      injection a1 with e1 e2 e3
      injection e1 with e1
      injection e1 with e1
      subst e1; subst e2
      rw [if_pos rfl]
      exact ⟨gi, ni, hi, hr, hw, a4, Nat.lt_of_lt_of_le a5 hg.size, a6⟩
    · rw [if_neg hik]
      have hne : gk ≠ gi := by
        rcases Nat.lt_or_ge i k with h1 | h1
        · have := a6 i h1 _ _ _ hi; omega
        · have hil : i < R.length := by
            have := h.1
            rcases Nat.lt_or_ge i xs.length with h2 | h2
            · omega
            · rw [List.getElem?_eq_none h2] at hi; cases hi
          obtain ⟨gi', ni', b1, -, -, -, -, b6⟩ := h.2 i hil
          rw [hi] at b1
          injection b1 with b1
          injection b1 with e1 e2 e3
          injection e1 with e1
          injection e1 with e1
          subst e1
          have := b6 k (by omega) _ _ _ a1
          omega
      exact ⟨gk, nk, a1, a2, a3.keep (fun g e hlt => hg.block g hlt (fun e2 => hne (by injection e with e; injection e with e; injection e2 with e2; omega))), a4, Nat.lt_of_lt_of_le a5 hg.size, a6⟩⟩
/-- all rows marked, one behind the other -/
def mrk : Int → List (List Value) → List (List Value)
  | _, [] => []
  | k, r :: R => (marks k r.length).map (.int .i64) :: mrk (k + r.length) R
def totR : List (List Value) → Nat
  | [] => 0
  | r :: R => r.length + totR R
theorem totR_take (R : List (List Value)) : ∀ (i : Nat) (h : i < R.length), totR (R.take (i + 1)) = totR (R.take i) + R[i].length := by
  induction R with
  | nil => intro i h; simp at h
  | cons r R ih =>
    intro i h
    cases i with
    | zero => simp [totR]
    | succ i =>
      have := ih i (by simpa using h)
      simp only [List.take_succ_cons, totR, List.getElem_cons_succ]
      omega
theorem totR_le (R : List (List Value)) : ∀ i, totR (R.take i) ≤ totR R := by
  induction R with
  | nil => intro i; simp [totR]
  | cons r R ih =>
    intro i
    cases i with
    | zero => simp [totR]
    | succ i => have := ih i; simp only [List.take_succ_cons, totR]; omega
theorem tot_le (n : Nat) : ∀ (F : List (List Ce)), (∀ x ∈ F, x.length ≤ n) → totR (F.map cellsV) ≤ F.length * (n * 2)
  | [], _ => by simp [totR]
  | a :: F, h => by
    have ih := tot_le n F (fun x hx => h x (by simp [hx]))
    have ha := h a (by simp)
    rw [List.map_cons, totR, cellsV_len, List.length_cons, Nat.add_mul]
    have : a.length * 2 ≤ n * 2 := by omega
    omega
theorem mrk_len (k : Int) (R : List (List Value)) : (mrk k R).length = R.length := by
  induction R generalizing k with
  | nil => rfl
  | cons r R ih => simp [mrk, ih]
theorem mrk_get (R : List (List Value)) : ∀ (k : Int) (i : Nat) (h : i < R.length) (h2 : i < (mrk k R).length), (mrk k R)[i] = (marks (k + totR (R.take i)) R[i].length).map (.int .i64) := by
  induction R with
  | nil => intro k i h; simp at h
  | cons r R ih =>
    intro k i h h2
    cases i with
    | zero => simp [mrk, totR]
    | succ i =>
      have := ih (k + r.length) i (by simpa using h) (by simpa [mrk] using h2)
      simp only [mrk, List.getElem_cons_succ, List.take_succ_cons, totR]
      rw [this]
      congr 2
      omega
/-- the first i marked -/
def mrkTo (k : Int) (R : List (List Value)) (i : Nat) : List (List Value) := mrk k (R.take i) ++ R.drop i
theorem mrkTo_zero (k : Int) (R : List (List Value)) : mrkTo k R 0 = R := by simp [mrkTo, mrk]
theorem mrkTo_all (k : Int) (R : List (List Value)) : mrkTo k R R.length = mrk k R := by simp [mrkTo]
theorem mrkTo_len (k : Int) (R : List (List Value)) (i : Nat) (h : i ≤ R.length) : (mrkTo k R i).length = R.length := by
  unfold mrkTo; rw [List.length_append, mrk_len, List.length_take, List.length_drop]; omega
theorem mrk_snoc (k : Int) (R : List (List Value)) (r : List Value) : mrk k (R ++ [r]) = mrk k R ++ [(marks (k + totR R) r.length).map (.int .i64)] := by
  induction R generalizing k with
  | nil => simp [mrk, totR]
  | cons a R ih =>
    show _ :: mrk (k + a.length) (R ++ [r]) = _ :: mrk (k + a.length) R ++ _
    rw [ih]
    simp only [totR, List.cons_append]
    congr 5
    omega
theorem mrkTo_step (k : Int) (R : List (List Value)) (i : Nat) (h : i < R.length) : (mrkTo k R i).set i ((marks (k + totR (R.take i)) R[i].length).map (.int .i64)) = mrkTo k R (i + 1) := by
  unfold mrkTo
  have h1 : (mrk k (R.take i)).length = i := by rw [mrk_len, List.length_take]; omega
  rw [List.set_append_right _ _ (by omega), h1, Nat.sub_self, List.drop_eq_getElem_cons h, List.set_cons_zero, take_one_more R i h, mrk_snoc, List.append_assoc]
  rfl
theorem mrkTo_at (k : Int) (R : List (List Value)) (i : Nat) (h : i < R.length) (h2 : i < (mrkTo k R i).length) : (mrkTo k R i)[i] = R[i] := by
  have h3 : (mrkTo k R i)[i]? = R[i]? := by
    unfold mrkTo
    have h1 : (mrk k (R.take i)).length = i := by rw [mrk_len, List.length_take]; omega
    rw [List.getElem?_append_right (by omega), h1, Nat.sub_self, List.getElem?_drop]
    simp
  rw [List.getElem?_eq_getElem h2, List.getElem?_eq_getElem h] at h3
  injection h3
/-- only what lies from lo on is written -/
def Above (lo : Nat) (w w' : World) : Prop := ∀ B w0, B ≤ lo → B ≤ w.heap.size → Below B w0 w → Below B w0 w'
set_option maxHeartbeats 2000000 in
theorem markCellSS_any (A : Option Addr) (n c : Nat) (xs : List Value) (R : List (List Value)) (k : Int) (w : World) (lo : Nat) (h : RowsW w lo A xs R) (hr : Rd w A xs) (hx : R.length = n) (ht : totR R ≤ 1000000) (hn : n ≤ 1000000) (k0 : 0 ≤ k) (k1 : k ≤ 1000000000) :
    Calls Tryz.prog 27 #[.slice A n c, .int .i64 k] w fun e w' => e = .returned (.int .i64 (k + totR R)) ∧ RowsW w' lo A xs (mrk k R) ∧ Rd w' A xs ∧ Above lo w w' ∧ w.heap.size ≤ w'.heap.size := by
  have HX := Lib.hid hx
  clear hx
  go_enter Tryz.func27, Tryz.ntmps27
  go_wp2
  go_loopw [1, 5] (fun v i wr => ∃ j : Nat, j ≤ n ∧ i = .int .i64 j ∧ v = .int .i64 (k + totR (R.take j)) ∧ RowsW wr lo A xs (mrkTo k R j) ∧ Rd wr A xs ∧ Above lo w wr ∧ w.heap.size ≤ wr.heap.size) (fun _ i _ => n - (intOf i).toNat)
  case atStart => exact ⟨0, Nat.zero_le _, rfl, by simp [totR], by rw [mrkTo_zero]; exact h, hr, fun B w0 _ _ hb => hb, Nat.le_refl _⟩
  case round =>
    obtain ⟨j, hj, rfl, rfl, hw, hrd, hab, hsz⟩ := hrel
    by_cases hlt : j < n
    · have hjR : j < R.length := by rw [HX.out]; exact hlt
      have hjM : j < (mrkTo k R j).length := by rw [mrkTo_len k R j (by omega)]; exact hjR
      obtain ⟨gk, nk, a1, a2, a3, a4, a5, -⟩ := hw.2 j hjM
      obtain ⟨b, off, rfl, hc⟩ := rd_cellE hrd a1
      have HA1 := Lib.hid a1
      have hle := totR_le R (j + 1)
      have HT := Lib.hid (totR_take R j hjR)
      rw [HT.out] at hle
      have HM := Lib.hid (mrkTo_at k R j hjR hjM)
      rw [HM.out] at a2 a3
      have HS := Lib.hid (mrkTo_step k R j hjR)
      rw [a2] at hle
      have HA2 := Lib.hid a2
      have HW := Lib.hid hw
      have HRD := Lib.hid hrd
      have HAB := Lib.hid hab
      have hne : (⟨b, off, none⟩ : Addr).block ≠ gk := a4 _ rfl
      have CC := Lib.hid (markCellS_any (some ⟨gk, 0, none⟩) nk nk R[j] (k + totR (R.take j)) wr lo a3 a2 (by omega) (by omega) (by omega))
      clear a1 a2 a3 a4 hw hrd hab
      generalize totR (R.take j) = t at hle CC HT HS
      go_wp2_with (go_at_call 88; refine CC.out.mono ?_; rintro e w5 ⟨rfl, m1, m2⟩)
      have hsz5 := m2.size
      go_roundw
      case rel =>
        refine ⟨j + 1, by omega, by go_num, ?_, ?_, ?_, ?_, by omega⟩
        · rw [HT.out, HA2.out]; congr 1; omega
        · rw [← HS.out, HA2.out]
          exact HW.out.mark HA1.out (by rw [List.length_map, marks_len]) m1 m2
        · exact Rd.grownBelow HRD.out m2 (fun _ ad ha e => by injection ha with ha; subst ha; exact hne (by simpa using e))
        · intro B w0 hB hBs hb
          refine (HAB.out B w0 hB hBs hb).grown m2 (by omega) (fun q hq => ?_)
          have h2 := m1.1 _ rfl
          simp at hq h2
          omega
      case measure => simp [intOf]; omega
    · have hjn : j = n := by omega
      subst hjn
      have HW : Hid (RowsW wr lo A xs (mrk k R)) := by
        show RowsW _ _ _ _ _
        have := hw
        rw [← HX.out, mrkTo_all] at this
        exact this
      have HTT : Hid (totR (R.take j) = totR R) := by show _ = _; rw [← HX.out, List.take_length]
      clear hw
      go_wp2
      go_ret
      exact ⟨ret_i (by rw [HTT.out]), HW.out, hrd, hab, hsz⟩
end Go.Proofs.YtejkbjcmndnfeaaGreat

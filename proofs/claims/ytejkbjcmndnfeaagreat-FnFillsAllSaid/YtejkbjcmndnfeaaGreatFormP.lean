
/- Contract: lists of pieces compacted in place. -/
import Derived.Test.YtejkbjcmndnfeaaGreatFormK
import Derived.Lib.SliceRun
namespace Go.Proofs.YtejkbjcmndnfeaaGreat
open Go.RowKit Go.Sort

theorem Tryz.zeroSC (w : World) : (zeroValue 32).run Tryz.prog w = .ok (.slice none 0 0) w := by
  simp [go_sem]
theorem HeadsR.keepA {w w' : World} {base : Nat} {v : Value} {xs : List Value} {pss : List (List Ce)} (h : HeadsR w xs pss) (hp : Parts w base v xs) (hg : w.grownBy w' v.ownBlock) : HeadsR w' xs pss := h.grown hp hg (.inl rfl)
/-- the heads written so far -/
structure CompK (w wr : World) (base g n c : Nat) (xs : List Value) (S : List (List Ce)) (m kk : Nat) (ys : List Value) : Prop where
  own : wr.ownsRow base 32 1 (.slice (some ⟨g, 0, none⟩) n c) n ys
  gr : w.grownBy wr (some g)
  high : ∀ j, m ≤ j + 1 → ys[j]? = xs[j]?
  len : (comp (S.take m)).length = kk
  hd : HeadsR wr (ys.take kk) (comp (S.take m))
  lt : kk < m
  pt : Parts wr base (.slice (some ⟨g, 0, none⟩) n c) ys
theorem CompK.skip {w wr : World} {base g n c : Nat} {xs : List Value} {S : List (List Ce)} {m kk : Nat} {ys : List Value} (h : CompK w wr base g n c xs S m kk ys) (q : Nat) (h1 : 1 ≤ m) (hm : m < S.length) (he : S[m] = S[m - 1]) :
    CompK w (wr.drewN q) base g n c xs S (m + 1) kk ys := by
  have e : comp (S.take (m + 1)) = comp (S.take m) := by rw [comp_take S h1 hm, if_pos he.symm]
  refine ⟨h.own, ⟨h.gr.os, h.gr.tape, h.gr.output, h.gr.size, h.gr.block⟩, fun j hj => h.high j (by omega), by rw [e]; exact h.len, by rw [e]; exact h.hd, by have := h.lt; omega, h.pt⟩
theorem CompK.keep {w wr : World} {base g n c : Nat} {xs : List Value} {S : List (List Ce)} {m kk : Nat} {ys : List Value} (h : CompK w wr base g n c xs S m kk ys) (q : Nat) (h1 : 1 ≤ m) (hm : m < S.length) (hn : S.length = n) (hne : S[m] ≠ S[m - 1])
    (H : HeadsR wr xs S) {x : Value} (hx : xs[m]? = some x) (hP : Parts wr base (.slice (some ⟨g, 0, none⟩) n c) xs) :
    CompK w ((wr.drewN q).setCell ⟨g, kk, none⟩ x) base g n c xs S (m + 1) (kk + 1) (ys.set kk x) := by
  have e : comp (S.take (m + 1)) = comp (S.take m) ++ [S[m]] := by rw [comp_take S h1 hm, if_neg (fun hh => hne hh.symm)]
  have hyl : ys.length = n := by have := h.own.1; omega
  have hlt := h.lt
  have hg2 : wr.grownBy ((wr.drewN q).setCell ⟨g, kk, none⟩ x) (some g) := by
    have h0 := set_grown (wr.drewN q) g kk x
    exact ⟨h0.os, h0.tape, h0.output, h0.size, h0.block⟩
  have hP2 : Parts ((wr.drewN q).setCell ⟨g, kk, none⟩ x) base (.slice (some ⟨g, 0, none⟩) n c) (ys.set kk x) := by
    intro k ad n' c' e'
    rw [List.getElem?_set] at e'
    by_cases hk : kk = k
    · rw [if_pos hk, if_pos (by omega)] at e'
      obtain ⟨k1, k2, k3⟩ := hP m ad n' c' (by rw [hx]; exact e')
      exact ⟨k1, Nat.lt_of_lt_of_le k2 hg2.size, k3⟩
    · rw [if_neg hk] at e'
      obtain ⟨k1, k2, k3⟩ := h.pt k ad n' c' e'
      exact ⟨k1, Nat.lt_of_lt_of_le k2 hg2.size, k3⟩
  have hcl := h.len
  have htk : (ys.set kk x).take (kk + 1) = ys.take kk ++ [x] := by
    rw [List.take_set, take_one_more ys kk (by omega)]
    rw [List.set_append_right _ _ (by rw [List.length_take]; omega)]
    simp [show min kk ys.length = kk by omega]
  refine ⟨(h.own.stored kk x).1, ?_, ?_, ?_, ?_, by omega, hP2⟩
  · have hgr := h.gr
    exact grownBy_trans' hgr hg2
  · intro j hj
    rw [List.getElem?_set, if_neg (by omega)]
    exact h.high j (by omega)
  · rw [e, List.length_append, hcl]; rfl
  · rw [e, htk]
    have hk0 := h.hd.keepA (v := .slice (some ⟨g, 0, none⟩) n c) (base := base) (fun k ad n' c' e' => by
      rw [List.getElem?_take] at e'
      split at e'
      · exact h.pt k ad n' c' e'
      · cases e') hg2
    have hxm : m < xs.length := by
      rcases Nat.lt_or_ge m xs.length with h3 | h3
      · exact h3
      · rw [List.getElem?_eq_none h3] at hx; cases hx
    have hxe : xs[m] = x := by rw [List.getElem?_eq_getElem hxm] at hx; injection hx
    have hk1 := (H.keepA hP hg2).at_ hm hxm
    rw [hxe] at hk1
    have hlen2 : (ys.take kk).length = kk := by rw [List.length_take]; omega
    refine HeadsR.mk (by rw [List.length_append, List.length_append, hlen2, hcl]; rfl) (fun k hk hx2 => ?_)
    rcases Nat.lt_or_ge k kk with h3 | h3
    · have a1 : (ys.take kk ++ [x])[k] = (ys.take kk)[k]'(by omega) := List.getElem_append_left _
      have a2 : (comp (S.take m) ++ [S[m]])[k] = (comp (S.take m))[k]'(by omega) := List.getElem_append_left _
      rw [a1, a2]
      exact hk0.at_ _ _
    · have hkk : k = kk := by rw [List.length_append, hcl] at hk; simp at hk; omega
      subst hkk
      have a1 : (ys.take k ++ [x])[k] = x := by
        rw [List.getElem_append_right (by omega)]; simp
      have a2 : (comp (S.take m) ++ [S[m]])[k] = S[m] := by
        rw [List.getElem_append_right (by omega)]; simp
      rw [a1, a2]
      exact hk1
theorem HeadsR.takeK {w : World} {xs : List Value} {pss : List (List Ce)} (h : HeadsR w xs pss) (k : Nat) : HeadsR w (xs.take k) (pss.take k) := by
  have hl := h.1
  refine HeadsR.mk (by rw [List.length_take, List.length_take, hl]) (fun j hj hx => ?_)
  rw [List.getElem_take, List.getElem_take]
  exact h.at_ _ _
theorem Parts.takeK {w : World} {base : Nat} {g n c n' : Nat} {xs : List Value} (h : Parts w base (.slice (some ⟨g, 0, none⟩) n c) xs) (k : Nat) : Parts w base (.slice (some ⟨g, 0, none⟩) n' c) (xs.take k) := fun j ad m c2 e => by
  rw [List.getElem?_take] at e
  split at e
  · exact h j ad m c2 e
  · cases e
theorem CompK.start {w : World} {base g n c : Nat} {xs : List Value} {S : List (List Ce)} {k : Nat} (h : w.ownsRow base 32 1 (.slice (some ⟨g, 0, none⟩) n c) n xs) (H : HeadsR w xs S)
    (hP : Parts w base (.slice (some ⟨g, 0, none⟩) n c) xs) (hk : comp (S.take k) = S.take k) (h1 : 1 ≤ k) (hm : k < S.length) (he : S[k] = S[k - 1]) (q : Nat) : CompK w (w.drewN q) base g n c xs S (k + 1) k xs := by
  have e : comp (S.take (k + 1)) = S.take k := by rw [comp_take S h1 hm, if_pos he.symm, hk]
  refine ⟨h, ⟨rfl, rfl, rfl, Nat.le_refl _, fun _ _ _ => rfl⟩, fun _ _ => rfl, by rw [e, List.length_take]; omega, ?_, by omega, hP⟩
  rw [e]
  exact H.takeK k
theorem CompK.done {w wr : World} {base g n c : Nat} {xs : List Value} {S : List (List Ce)} {kk : Nat} {ys : List Value} (h : CompK w wr base g n c xs S n kk ys) (hn : S.length = n) (zs : List Value) :
    ∃ xs', (wr.setCells g kk zs).ownsRow base 32 1 (.slice (some ⟨g, 0, none⟩) (comp S).length c) (comp S).length xs' ∧ HeadsR (wr.setCells g kk zs) xs' (comp S) ∧ Parts (wr.setCells g kk zs) base (.slice (some ⟨g, 0, none⟩) (comp S).length c) xs' ∧ w.grownBy (wr.setCells g kk zs) (some g) ∧ (comp S).length = kk := by
  have e : comp (S.take n) = comp S := by rw [List.take_of_length_le (by omega)]
  have hlen := h.len
  have hhd := h.hd
  rw [e] at hlen hhd
  obtain ⟨xs', o1, t1⟩ := own_setCells zs kk h.own
  have hg := grown_setCells g zs kk wr
  have hlt := h.lt
  have o2 := own_short o1 (k := kk) (by omega)
  rw [t1] at o2
  rw [hlen]
  have hp := h.pt.takeK (n' := kk) kk
  exact ⟨ys.take kk, o2, hhd.keepA hp hg, hp.grown hg.size, grownBy_trans' h.gr hg, rfl⟩
/-- a list of pieces cut short in place -/
def Compacted (w : World) (base g c : Nat) (S : List (List Ce)) (e : Ending) (w' : World) : Prop :=
  ∃ xs', e = .returned (.slice (some ⟨g, 0, none⟩) (comp S).length c) ∧ w'.ownsRow base 32 1 (.slice (some ⟨g, 0, none⟩) (comp S).length c) (comp S).length xs' ∧ HeadsR w' xs' (comp S) ∧ Parts w' base (.slice (some ⟨g, 0, none⟩) (comp S).length c) xs' ∧ w.grownBy w' (some g)
theorem take_len_comp {S : List (List Ce)} {m : Nat} (h : comp (S.take m) = S.take m) (h1 : 1 ≤ m) (hm : m < S.length) (he : S[m] = S[m - 1]) : (comp (S.take (m + 1))).length = m := by
  rw [comp_take S h1 hm, if_pos he.symm, h, List.length_take]; omega
set_option maxRecDepth 100000 in
set_option maxHeartbeats 4000000 in
theorem compactF_any (g c base n : Nat) (xs : List Value) (S : List (List Ce)) (w : World) (h : w.ownsRow base 32 1 (.slice (some ⟨g, 0, none⟩) n c) n xs) (H : HeadsR w xs S)
    (hP : Parts w base (.slice (some ⟨g, 0, none⟩) n c) xs) (hn : n ≤ 1000000) :
    Calls Tryz.prog 149 #[.slice (some ⟨g, 0, none⟩) n c, .func (.func 139) #[] #[]] w (Compacted w base g c S) := by
  have hxl : xs.length = n := by have := h.1; omega
  have hSl : S.length = n := by have := H.1; omega
  obtain ⟨hcap, hcm⟩ := own_cap h
  unfold maxLen at hcm
  have HXL := Lib.hid hxl
  have HSL := Lib.hid hSl
  have HH := Lib.hid H
  have HP := Lib.hid hP
  have HO := Lib.hid h
  clear hxl hSl
  have HALL := Lib.hid (fun (q k : Nat) (hk : n ≤ k) (hc : comp (S.take k) = S.take k) => show Compacted w base g c S (.returned (.slice (some ⟨g, 0, none⟩) n c)) (w.drewN q) by
    have e : comp S = S := by rw [List.take_of_length_le (by rw [HSL.out]; exact hk)] at hc; exact hc
    refine ⟨xs, by rw [e, HSL.out], by rw [e, HSL.out]; exact h, by rw [e]; exact H, by rw [e, HSL.out]; exact hP, ?_⟩
    exact ⟨rfl, rfl, rfl, Nat.le_refl _, fun _ _ _ => rfl⟩)
  clear H hP
  by_cases h2 : n < 2
  · have hd2 : decide ((n : Int) < 2) = true := by simp; omega
    have h0 : comp (S.take n) = S.take n := by
      have := HSL.out
      match S, this with
      | [], _ => simp [comp]
      | [x], _ => cases n <;> simp [comp]
      | x :: y :: l, hh => simp at hh; omega
    have HR := Lib.hid (HALL.out 0 n (Nat.le_refl _) h0)
    clear h h0
    go_enter Tryz.func149, Tryz.ntmps149
    go_wp2_with fail
    go_ret
    exact HR.out
  · have hd2 : decide ((n : Int) < 2) = false := by simp; omega
    clear h
    go_enter Tryz.func149, Tryz.ntmps149
    go_wp2_with fail
    go_loopw [5] (fun i wr => ∃ k q : Nat, 1 ≤ k ∧ k ≤ n ∧ i = .int .i64 k ∧ wr = w.drewN q ∧ Hid (comp (S.take k) = S.take k)) (fun i _ => n - (intOf i).toNat)
    case atStart => exact ⟨1, 0, Nat.le_refl _, by omega, rfl, rfl, (by
      show comp (S.take 1) = S.take 1
      match S with
      | [] => simp [comp]
      | x :: l => simp [comp])⟩
    case round =>
      obtain ⟨k, q, hk1, hk, rfl, rfl, HK⟩ := hrel
      by_cases hlt : k < n
      · have hkS : k < S.length := by rw [HSL.out]; exact hlt
        have hkx : k < xs.length := by rw [HXL.out]; exact hlt
        obtain ⟨B, c1, e1, l1, m1, r1⟩ := HH.out.at_ hkS hkx
        obtain ⟨B', c2, e2, l2, m2, r2⟩ := HH.out.at_ (k := k - 1) (by omega) (by omega)
        have d1 : w.cell? ⟨g, k, none⟩ = some (.slice B S[k].length c1) := by rw [HO.out.cellAt k (by omega), List.getElem?_eq_getElem hkx, e1]
        have d2 : w.cell? ⟨g, k - 1, none⟩ = some (.slice B' S[k - 1].length c2) := by rw [HO.out.cellAt (k - 1) (by omega), List.getElem?_eq_getElem (by omega), e2]
        have CC := Lib.hid (fun z => sameForm_any B B' c1 c2 S[k] S[k - 1] (w.drewN z) (Rd.drewN r1 z) (Rd.drewN r2 z) (by omega))
        obtain ⟨wq, hwq⟩ : ∃ wq, w.drewN q = wq := ⟨_, rfl⟩
        have HWQ := Lib.hid hwq
        have d1q : wq.cell? ⟨g, k, none⟩ = some (.slice B S[k].length c1) := by rw [← hwq]; exact d1
        have d2q : wq.cell? ⟨g, k - 1, none⟩ = some (.slice B' S[k - 1].length c2) := by rw [← hwq]; exact d2
        have CQ : Hid (∀ z, Calls Tryz.prog 139 #[.slice B S[k].length c1, .slice B' S[k - 1].length c2] (wq.drewN z) fun e w'' => e = .returned (.bool (decide (S[k] = S[k - 1]))) ∧ ∃ m, w'' = wq.drewN m) := by
          intro z
          rw [← hwq, World.drewN_drewN]
          refine (CC.out (q + z)).mono ?_
          rintro e w'' ⟨he, p, hp⟩
          exact ⟨he, z + p, by rw [hp, World.drewN_drewN, World.drewN_drewN, Nat.add_assoc]⟩
        rw [hwq]
        clear d1 d2 CC hwq r1 r2 e1 e2 l1 l2 m1 m2
        by_cases hE : S[k] = S[k - 1]
        · have HE := Lib.hid hE
          have HD := Lib.hid (decide_eq_true hE)
          have HT := Lib.hid (take_len_comp HK.out hk1 hkS hE)
          clear hE
          rw [HD.out] at CQ
          generalize S[k].length = z1 at d1q CQ
          generalize S[k - 1].length = z2 at d2q CQ
          have w1 : IntKind.i64.wrap ((k : Int) - 1) = (k : Int) - 1 := IntWalk.i64_in _ (by omega)
          have w2 : (0 : Int) ≤ (k : Int) - 1 := by omega
          have w3 : ((k : Int) - 1).toNat = k - 1 := by omega
          have hkc : (k : Int) < (c : Int) := by omega
          have hkc2 : k < c := by omega
          go_wp2_with fail
          go_quiet ((go_at_call 139; exact CQ.out _))
          clear w1 w2 w3 d1q d2q
          have K0 : CompK w wq base g n c xs S (k + 1) k xs := by
            rw [← HWQ.out]; exact CompK.start HO.out HH.out HP.out HK.out hk1 hkS HE.out q
          have K1 : CompK w (wq.drewN nq) base g n c xs S (k + 1) k xs := ⟨K0.own, ⟨K0.gr.os, K0.gr.tape, K0.gr.output, K0.gr.size, K0.gr.block⟩, K0.high, K0.len, K0.hd, K0.lt, K0.pt⟩
          have HK1 := Lib.hid K1
          have hk1n : k + 1 ≤ n := hlt
          clear K0 K1 HK HE HD HT CQ HWQ hlt hkS hkx
          go_wp2_with fail
          go_loopw [5, 7] (fun s5 s7 wr => ∃ (kk k2 : Nat) (ys : List Value), s5 = .int .i64 kk ∧ s7 = .int .i64 k2 ∧ 1 ≤ k2 ∧ k + k2 ≤ n ∧ CompK w wr base g n c xs S (k + k2) kk ys) (fun _ s7 _ => n - k - (intOf s7).toNat)
          case atStart => exact ⟨k, 1, xs, rfl, rfl, Nat.le_refl _, by omega, HK1.out⟩
          case round =>
            clear HK1
            obtain ⟨kk, k2, ys, rfl, rfl, hk2, hkn, K⟩ := hrel
            have HKK := Lib.hid K
            have hltk := K.lt
            by_cases hlt2 : k + k2 < n
            · have hmS : k + k2 < S.length := by rw [HSL.out]; exact hlt2
              have hmx : k + k2 < xs.length := by rw [HXL.out]; exact hlt2
              have HX := Lib.hid (HH.out.keepA HP.out K.gr)
              have HPX := Lib.hid (HP.out.grown K.gr.size)
              obtain ⟨B, c1, e1, l1, m1, r1⟩ := HX.out.at_ hmS hmx
              obtain ⟨B', c2, e2, l2, m2, r2⟩ := HX.out.at_ (k := k + k2 - 1) (by omega) (by omega)
              have d1 : wr.cell? ⟨g, k + k2, none⟩ = some (.slice B S[k + k2].length c1) := by rw [K.own.cellAt (k + k2) (by omega), K.high (k + k2) (by omega), List.getElem?_eq_getElem hmx, e1]
              have d2 : wr.cell? ⟨g, k + (k2 - 1), none⟩ = some (.slice B' S[k + k2 - 1].length c2) := by rw [show k + (k2 - 1) = k + k2 - 1 by omega, K.own.cellAt (k + k2 - 1) (by omega), K.high (k + k2 - 1) (by omega), List.getElem?_eq_getElem (by omega), e2]
              have CC := Lib.hid (fun z => sameForm_any B B' c1 c2 S[k + k2] S[k + k2 - 1] (wr.drewN z) (Rd.drewN r1 z) (Rd.drewN r2 z) (by omega))
              have CQ : Hid (∀ z, Calls Tryz.prog 139 #[.slice B S[k + k2].length c1, .slice B' S[k + k2 - 1].length c2] (wr.drewN z) fun e w'' => e = .returned (.bool (decide (S[k + k2] = S[k + k2 - 1]))) ∧ ∃ m, w'' = wr.drewN m) := fun z => by
                refine (CC.out z).mono ?_
                rintro e w'' ⟨he, p, hp⟩
                exact ⟨he, z + p, by rw [hp, World.drewN_drewN]⟩
              have HX1 := Lib.hid (show xs[k + k2]? = some (.slice B S[k + k2].length c1) by rw [List.getElem?_eq_getElem hmx, e1])
              have hyl : ys.length = n := by have := K.own.1; omega
              obtain ⟨old, hold⟩ : ∃ old, wr.cell? ⟨g, kk, none⟩ = some old := ⟨ys[kk]'(by omega), by rw [K.own.cellAt kk (by omega), List.getElem?_eq_getElem (by omega)]⟩
              have hfr := K.own.frozenAt kk
              clear CC r1 r2 e1 e2 l1 l2 m1 m2 hyl K
              have w1 : IntKind.i64.wrap ((k2 : Int) - 1) = (k2 : Int) - 1 := IntWalk.i64_in _ (by omega)
              have w2 : (0 : Int) ≤ (k2 : Int) - 1 := by omega
              have w3 : ((k2 : Int) - 1).toNat = k2 - 1 := by omega
              have w4 : (k2 : Int) < ((n - k : Nat) : Int) := by omega
              have w5 : k2 < n - k := by omega
              have w6 : k2 - 1 < n - k := by omega
              by_cases hE : S[k + k2] = S[k + k2 - 1]
              · have HD := Lib.hid (decide_eq_true hE)
                have HKN := Lib.hid (fun q => HKK.out.skip q (by omega) hmS hE)
                rw [HD.out] at CQ
                clear hE HX1 HD hold hfr
                generalize S[k + k2].length = z1 at d1 CQ
                generalize S[k + k2 - 1].length = z2 at d2 CQ
                go_wp2_with fail
                go_quiet ((go_at_call 139; exact CQ.out _))
                clear w1 w2 w3 d1 d2
                go_wp2_with fail
                go_roundw
                case rel => exact ⟨kk, k2 + 1, ys, rfl, by go_num, by omega, by omega, HKN.out _⟩
                case measure => simp [intOf]; omega
              · have HD := Lib.hid (decide_eq_false hE)
                have HKN := Lib.hid (fun q => HKK.out.keep q (by omega) hmS HSL.out hE HX.out HX1.out HPX.out)
                rw [HD.out] at CQ
                clear hE HD HX1
                generalize S[k + k2].length = z1 at d1 CQ HKN
                generalize S[k + k2 - 1].length = z2 at d2 CQ
                go_wp2_with fail
                go_quiet ((go_at_call 139; exact CQ.out _))
                clear w1 w2 w3 d2
                have d1q : (wr.drewN nq).cell? ⟨g, k + k2, none⟩ = some (.slice B z1 c1) := d1
                have holdq : (wr.drewN nq).cell? ⟨g, kk, none⟩ = some old := hold
                have hfrq : (wr.drewN nq).frozen? ⟨g, kk, none⟩ = false := hfr
                have KN := Lib.hid (HKN.out nq)
                clear d1 hold hfr HKN
                generalize wr.drewN nq = wz at *
                go_wp2_with fail
                go_roundw
                case rel => exact ⟨kk + 1, k2 + 1, _, by go_num, by go_num, by omega, by omega, KN.out⟩
                case measure => simp [intOf]; omega
            · have hend : k + k2 = n := by omega
              have HKE : Hid (CompK w wr base g n c xs S n kk ys) := by
                have h := HKK.out
                rw [hend] at h
                exact h
              have hyl : ys.length = n := by have := K.own.1; omega
              have hclr : ∀ ty, (Builtin.clear_ #[26] ty #[.slice (some ⟨g, kk, none⟩) (n - kk) (c - kk)]).run Tryz.prog wr = .ok (.tuple #[]) (wr.setCells g kk (List.replicate (n - kk) (.slice none 0 0))) := fun ty =>
                Lib.run_clear_slice wr _ _ ty _ Tryz.underlying26 Tryz.zeroSC rfl rfl g kk _ _ (by omega) (fun j hj => by rw [K.own.cellAt (kk + j) (by omega), List.getElem?_eq_getElem (by omega)]; rfl) (fun j _ => K.own.frozenAt (kk + j))
              have HFIN := Lib.hid (HKE.out.done HSL.out (List.replicate (n - kk) (.slice none 0 0)))
              clear K hyl HKE HKK
              have g1 : ¬ ((k2 : Int) < ((n - k : Nat) : Int)) := by omega
              have g2 : kk < c := by omega
              have g3 : kk ≤ n := by omega
              clear hend
              go_wp2_with fail
              go_ret
              obtain ⟨xs', a1, a2, a3, a4, a5⟩ := HFIN.out
              exact ⟨xs', by rw [a5]; rfl, a1, a2, a3, a4⟩
        · have HE := Lib.hid hE
          have HD := Lib.hid (decide_eq_false hE)
          have HT : Hid (comp (S.take (k + 1)) = S.take (k + 1)) := by
            show _ = _
            rw [comp_take S hk1 hkS, if_neg (fun hh => hE hh.symm), HK.out, take_one_more S k hkS]
          clear hE
          rw [HD.out] at CQ
          generalize S[k].length = z1 at d1q CQ
          generalize S[k - 1].length = z2 at d2q CQ
          have w1 : IntKind.i64.wrap ((k : Int) - 1) = (k : Int) - 1 := IntWalk.i64_in _ (by omega)
          have w2 : (0 : Int) ≤ (k : Int) - 1 := by omega
          have w3 : ((k : Int) - 1).toNat = k - 1 := by omega
          go_wp2_with fail
          go_quiet ((go_at_call 139; exact CQ.out _))
          clear w1 w2 w3 d1q d2q
          go_wp2_with fail
          go_roundw
          case rel => exact ⟨k + 1, _, by omega, by omega, by go_num, by rw [← HWQ.out, World.drewN_drewN], HT.out⟩
          case measure => simp [intOf]; omega
      · have HR := Lib.hid (HALL.out q k (by omega) HK.out)
        go_wp2_with fail
        go_ret
        exact HR.out
end Go.Proofs.YtejkbjcmndnfeaaGreat


/- Moved pieces, plainly: they are pieces, moved again they are the same, and turns and mirrors may be put together. -/
import Derived.Test.YtohbnogmeldmpaaMoveN
namespace Go.Proofs.Ytohbnogmeldmpaa

theorem adj_symm {a b : Ce} (h : adjC a b) : adjC b a := by unfold adjC at *; omega
theorem reach_mem {p : List Ce} {s a : Ce} (h : ReachC p s a) (hs : s ∈ p) : a ∈ p := by
  cases h with
  | base => exact hs
  | step a b _ hb _ => exact hb
theorem reach_mono {p q : List Ce} {s a : Ce} (h : ReachC p s a) (hq : ∀ x ∈ p, x ∈ q) : ReachC q s a := by
  induction h with
  | base => exact .base
  | step a b _ hb hab ih => exact .step _ _ ih (hq b hb) hab
theorem reach_trans {p : List Ce} {a b c : Ce} (h : ReachC p a b) (k : ReachC p b c) : ReachC p a c := by
  induction k with
  | base => exact h
  | step x y _ hy hxy ih => exact .step _ _ ih hy hxy
theorem reach_symm {p : List Ce} {s a : Ce} (h : ReachC p s a) (hs : s ∈ p) : ReachC p a s := by
  induction h with
  | base => exact .base
  | step a b hr hb hab ih => exact reach_trans (.step _ _ .base (reach_mem hr hs) (adj_symm hab)) ih
theorem reach_cols {p : List Ce} {s a : Ce} (h : ReachC p s a) (hs : s ∈ p) : ∀ i : Int, min s.1 a.1 ≤ i → i ≤ max s.1 a.1 → ∃ c ∈ p, c.1 = i := by
  induction h with
  | base => intro i h1 h2; exact ⟨s, hs, by omega⟩
  | step a b hr hb hab ih =>
    intro i h1 h2
    by_cases hi : min s.1 a.1 ≤ i ∧ i ≤ max s.1 a.1
    · exact ih i hi.1 hi.2
    · refine ⟨b, hb, ?_⟩
      unfold adjC at hab
      omega
theorem reach_rows {p : List Ce} {s a : Ce} (h : ReachC p s a) (hs : s ∈ p) : ∀ i : Int, min s.2 a.2 ≤ i → i ≤ max s.2 a.2 → ∃ c ∈ p, c.2 = i := by
  induction h with
  | base => intro i h1 h2; exact ⟨s, hs, by omega⟩
  | step a b hr hb hab ih =>
    intro i h1 h2
    by_cases hi : min s.2 a.2 ≤ i ∧ i ≤ max s.2 a.2
    · exact ih i hi.1 hi.2
    · refine ⟨b, hb, ?_⟩
      unfold adjC at hab
      omega
theorem six_no {p : List Ce} (hl : p.length ≤ 5) (f : Ce → Int) (x : Int) (h : ∀ i : Int, x ≤ i → i ≤ x + 5 → ∃ c ∈ p, f c = i) : False := by
  have := nodup_le [((x : Int), (0 : Int)), (x + 1, 0), (x + 2, 0), (x + 3, 0), (x + 4, 0), (x + 5, 0)] (p.map fun c => (f c, 0)) (by simp; omega) (by
    intro a ha
    simp only [List.mem_cons, List.not_mem_nil, or_false] at ha
    rw [List.mem_map]
    rcases ha with rfl | rfl | rfl | rfl | rfl | rfl
    · obtain ⟨c, hc, e⟩ := h x (by omega) (by omega); exact ⟨c, hc, by rw [e]⟩
    · obtain ⟨c, hc, e⟩ := h (x + 1) (by omega) (by omega); exact ⟨c, hc, by rw [e]⟩
    · obtain ⟨c, hc, e⟩ := h (x + 2) (by omega) (by omega); exact ⟨c, hc, by rw [e]⟩
    · obtain ⟨c, hc, e⟩ := h (x + 3) (by omega) (by omega); exact ⟨c, hc, by rw [e]⟩
    · obtain ⟨c, hc, e⟩ := h (x + 4) (by omega) (by omega); exact ⟨c, hc, by rw [e]⟩
    · obtain ⟨c, hc, e⟩ := h (x + 5) (by omega) (by omega); exact ⟨c, hc, by rw [e]⟩)
  simp at this
  omega
theorem reach_w {p : List Ce} {s a : Ce} (hl : p.length ≤ 5) (h : ReachC p s a) (hs : s ∈ p) : a.1 - s.1 ≤ 4 ∧ s.1 - a.1 ≤ 4 ∧ a.2 - s.2 ≤ 4 ∧ s.2 - a.2 ≤ 4 := by
  have hc := reach_cols h hs
  have hr := reach_rows h hs
  refine ⟨?_, ?_, ?_, ?_⟩
  · refine Classical.byContradiction fun hk => six_no hl (·.1) s.1 (fun i h1 h2 => hc i (by omega) (by omega))
  · refine Classical.byContradiction fun hk => six_no hl (·.1) a.1 (fun i h1 h2 => hc i (by omega) (by omega))
  · refine Classical.byContradiction fun hk => six_no hl (·.2) s.2 (fun i h1 h2 => hr i (by omega) (by omega))
  · refine Classical.byContradiction fun hk => six_no hl (·.2) a.2 (fun i h1 h2 => hr i (by omega) (by omega))
theorem lo_att {p : List Ce} (hne : p ≠ []) (k : Nat) (hk : k ≤ p.length) : (∃ c ∈ p, c.1 = (loK p k).1) ∧ ∃ c ∈ p, c.2 = (loK p k).2 := by
  induction k with
  | zero =>
    rw [loK_zero]
    cases p with
    | nil => exact absurd rfl hne
    | cons a l => exact ⟨⟨a, by simp, rfl⟩, ⟨a, by simp, rfl⟩⟩
  | succ k ih =>
    obtain ⟨⟨c, hc, e⟩, ⟨d, hd, e2⟩⟩ := ih (by omega)
    rw [loK_step p k (by omega)]
    constructor
    · by_cases h : (loK p k).1 ≤ p[k].1
      · exact ⟨c, hc, by simp only; omega⟩
      · exact ⟨p[k], List.getElem_mem _, by simp only; omega⟩
    · by_cases h : (loK p k).2 ≤ p[k].2
      · exact ⟨d, hd, by simp only; omega⟩
      · exact ⟨p[k], List.getElem_mem _, by simp only; omega⟩
theorem lo_unique {p : List Ce} {m : Ce} (h1 : ∀ c ∈ p, m.1 ≤ c.1 ∧ m.2 ≤ c.2) (h2 : ∃ c ∈ p, c.1 = m.1) (h3 : ∃ c ∈ p, c.2 = m.2) : loP p = m := by
  have hne : p ≠ [] := by rintro rfl; obtain ⟨c, hc, -⟩ := h2; cases hc
  obtain ⟨⟨c, hc, e⟩, ⟨d, hd, e2⟩⟩ := lo_att hne p.length (Nat.le_refl _)
  obtain ⟨x, hx, ex⟩ := h2
  obtain ⟨y, hy, ey⟩ := h3
  have k1 := loP_le p x hx
  have k2 := loP_le p y hy
  have k3 := h1 c hc
  have k4 := h1 d hd
  unfold loP at *
  exact Prod.ext (by omega) (by omega)
theorem lo_perm {p q : List Ce} (hne : p ≠ []) (h : q.Perm p) : loP q = loP p := by
  obtain ⟨⟨c, hc, e⟩, ⟨d, hd, e2⟩⟩ := lo_att hne p.length (Nat.le_refl _)
  exact lo_unique (fun c hc => loP_le p c (h.mem_iff.1 hc)) ⟨c, h.mem_iff.2 hc, e⟩ ⟨d, h.mem_iff.2 hd, e2⟩
theorem lo_sub {p : List Ce} (hne : p ≠ []) (m : Ce) : loP (p.map (subC m)) = subC m (loP p) := by
  obtain ⟨⟨c, hc, e⟩, ⟨d, hd, e2⟩⟩ := lo_att hne p.length (Nat.le_refl _)
  refine lo_unique (fun x hx => ?_) ⟨subC m c, List.mem_map_of_mem hc, by unfold subC loP; simp only; omega⟩ ⟨subC m d, List.mem_map_of_mem hd, by unfold subC loP; simp only; omega⟩
  obtain ⟨y, hy, rfl⟩ := List.mem_map.1 hx
  have := loP_le p y hy
  unfold subC
  simp only
  omega
theorem sort_perm {p q : List Ce} (h : q.Perm p) : sortC q = sortC p := sortC_unique ((sortC_perm q).trans h) (sortC_pw q)
theorem mvd_perm {p q : List Ce} (hne : p ≠ []) (h : q.Perm p) : mvd q = mvd p := by
  unfold mvd
  rw [lo_perm hne h]
  exact sort_perm (h.map _)
theorem mvd_sub {p : List Ce} (hne : p ≠ []) (m : Ce) : mvd (p.map (subC m)) = mvd p := by
  unfold mvd
  rw [lo_sub hne, List.map_map]
  congr 1
  refine List.map_congr_left (fun c _ => ?_)
  unfold subC
  exact Prod.ext (by simp only [Function.comp]; omega) (by simp only [Function.comp]; omega)
theorem mvd_perm0 (p : List Ce) : (mvd p).Perm (p.map (subC (loP p))) := sortC_perm _
/-- what is turned behind a move may be turned ahead of it -/
theorem mvd_map {p : List Ce} (hne : p ≠ []) (f : Ce → Ce) (hf : ∀ m c, f (subC m c) = subC (f m) (f c)) : mvd ((mvd p).map f) = mvd (p.map f) := by
  have h1 : ((mvd p).map f).Perm ((p.map (subC (loP p))).map f) := (mvd_perm0 p).map f
  have h2 : (p.map (subC (loP p))).map f = (p.map f).map (subC (f (loP p))) := by
    rw [List.map_map, List.map_map]
    refine List.map_congr_left (fun c _ => ?_)
    simp only [Function.comp]
    rw [hf]
  rw [h2] at h1
  have hne2 : p.map f ≠ [] := by simpa using hne
  rw [mvd_perm (by simpa using hne) h1, mvd_sub hne2]
theorem lin_stay (m c : Ce) : stayC (subC m c) = subC (stayC m) (stayC c) := rfl
theorem lin_turn (m c : Ce) : turnC (subC m c) = subC (turnC m) (turnC c) := by unfold turnC subC; exact Prod.ext (by simp only; omega) (by simp only)
theorem lin_flip (m c : Ce) : flipC (subC m c) = subC (flipC m) (flipC c) := by unfold flipC subC; exact Prod.ext (by simp only; omega) (by simp only)
theorem PieceOk.ne {p : List Ce} (h : PieceOk p) : p ≠ [] := by rintro rfl; have := h.1.1; simp at this
/-- a moved piece is a piece -/
theorem ok_mvd {p : List Ce} (h : PieceOk p) : PieceOk (mvd p) := by
  have hne := h.ne
  obtain ⟨⟨l1, l2⟩, hb, hn, hr⟩ := h
  obtain ⟨s, hs⟩ : ∃ s, p.headD (0, 0) = s := ⟨_, rfl⟩
  have hsp : s ∈ p := by
    cases p with
    | nil => exact absurd rfl hne
    | cons a l => rw [← hs]; simp
  rw [hs] at hr
  have hpm := mvd_perm0 p
  have hmem : ∀ x, x ∈ mvd p ↔ ∃ c ∈ p, subC (loP p) c = x := fun x => by rw [hpm.mem_iff, List.mem_map]
  have hl : (mvd p).length = p.length := mvd_len p
  refine ⟨by omega, fun x hx => ?_, ?_, fun a ha => ?_⟩
  · obtain ⟨c, hc, rfl⟩ := (hmem x).1 hx
    obtain ⟨⟨u, hu, e1⟩, ⟨v, hv, e2⟩⟩ := lo_att hne p.length (Nat.le_refl _)
    have k0 := loP_le p c hc
    have k1 := reach_w l2 (hr c hc) hsp
    have k2 := reach_w l2 (hr u hu) hsp
    have k3 := reach_w l2 (hr v hv) hsp
    unfold loP at *
    unfold subC
    simp only
    omega
  · rw [List.Perm.nodup_iff hpm]
    unfold List.Nodup at *
    rw [List.pairwise_map]
    exact hn.imp (fun {a b} hab e => hab (subC_inj e))
  · obtain ⟨c, hc, rfl⟩ := (hmem a).1 ha
    obtain ⟨t, ht⟩ : ∃ t, (mvd p).headD (0, 0) = t := ⟨_, rfl⟩
    have htm : t ∈ mvd p := by
      cases hq : mvd p with
      | nil => rw [hq] at ha; cases ha
      | cons a l => rw [hq] at ht; rw [← ht]; simp
    rw [ht]
    obtain ⟨d, hd, rfl⟩ := (hmem t).1 htm
    have e1 := reach_trans (reach_symm (hr d hd) hsp) (hr c hc)
    have e2 := reach_map (f := subC (loP p)) (fun a b hab => by unfold adjC subC at *; simp only; omega) e1
    exact reach_mono e2 (fun x hx => hpm.mem_iff.2 hx)
theorem mvdV_ok {p : List Ce} (f : Ce → Ce) (h : PieceOk p) : mvdV f p = mvd (p.map f) := by unfold mvdV; rw [if_pos (pieceB_t h)]
theorem mvdV_no {p : List Ce} (f : Ce → Ce) (h : pieceB p = false) : mvdV f p = [] := by unfold mvdV; rw [h]; rfl
/-- turned again -/
theorem mvdV_two {p : List Ce} (f g : Ce → Ce) (h : PieceOk p) (hf : PieceOk (p.map f)) (hg : ∀ m c, g (subC m c) = subC (g m) (g c)) : mvdV g (mvdV f p) = mvd ((p.map f).map g) := by
  rw [mvdV_ok f h, mvdV_ok g (ok_mvd hf), mvd_map hf.ne g hg]
theorem turn4 (p : List Ce) : (((p.map turnC).map turnC).map turnC).map turnC = p := by
  simp only [List.map_map]
  have : turnC ∘ turnC ∘ turnC ∘ turnC = id := by funext c; unfold turnC; simp
  rw [this, List.map_id]
theorem turn_flip_turn (p : List Ce) : ((p.map turnC).map flipC).map turnC = p.map flipC := by
  simp only [List.map_map]
  congr 1
  funext c
  unfold turnC flipC
  simp
/-- the law of turns -/
theorem law_turn {p : List Ce} (h : PieceOk p) : mvdV turnC (mvdV turnC (mvdV turnC (mvdV turnC p))) = mvdV stayC p := by
  have h1 := ok_turn h
  have h2 := ok_turn h1
  have h3 := ok_turn h2
  have h4 := ok_turn h3
  rw [mvdV_ok turnC h, mvdV_ok turnC (ok_mvd h1), mvd_map h1.ne turnC lin_turn, mvdV_ok turnC (ok_mvd h2), mvd_map h2.ne turnC lin_turn, mvdV_ok turnC (ok_mvd h3), mvd_map h3.ne turnC lin_turn, turn4, mvdV_ok stayC h, map_stay]
/-- the laws of mirrors -/
theorem law_flip {p : List Ce} (h : PieceOk p) : mvdV flipC (mvdV flipC p) = mvdV stayC p := by
  have h1 := ok_flip h
  rw [mvdV_two flipC flipC h h1 lin_flip, flip_flip, mvdV_ok stayC h, map_stay]
theorem law_flip2 {p : List Ce} (h : PieceOk p) : mvdV turnC (mvdV flipC (mvdV turnC p)) = mvdV flipC p := by
  have h1 := ok_turn h
  have h2 := ok_flip h1
  rw [mvdV_two turnC flipC h h1 lin_flip, mvdV_ok turnC (ok_mvd h2), mvd_map h2.ne turnC lin_turn, turn_flip_turn, mvdV_ok flipC h]
/-- the law of moves -/
theorem law_moved {p : List Ce} (h : PieceOk p) : mvdV stayC (mvdV stayC p) = mvdV stayC p ∧ (mvdV stayC p).length = p.length ∧ PieceOk (mvdV stayC p) ∧ (∀ c ∈ mvdV stayC p, 0 ≤ c.1 ∧ 0 ≤ c.2) ∧ (∃ c ∈ mvdV stayC p, c.1 = 0) ∧ ∃ c ∈ mvdV stayC p, c.2 = 0 := by
  have e : mvdV stayC p = mvd p := by rw [mvdV_ok stayC h, map_stay]
  rw [e]
  have hpm := mvd_perm0 p
  obtain ⟨⟨u, hu, e1⟩, ⟨v, hv, e2⟩⟩ := lo_att h.ne p.length (Nat.le_refl _)
  refine ⟨by rw [mvdV_ok stayC (ok_mvd h), mvd_map h.ne stayC lin_stay, map_stay], mvd_len p, ok_mvd h, fun c hc => ?_, ⟨subC (loP p) u, hpm.mem_iff.2 (List.mem_map_of_mem hu), ?_⟩, ⟨subC (loP p) v, hpm.mem_iff.2 (List.mem_map_of_mem hv), ?_⟩⟩
  · obtain ⟨d, hd, rfl⟩ := List.mem_map.1 (hpm.mem_iff.1 hc)
    have := loP_le p d hd
    unfold subC
    simp only
    omega
  · unfold subC loP; simp only; omega
  · unfold subC loP; simp only; omega
end Go.Proofs.Ytohbnogmeldmpaa

/- All pieces of so many cells, plainly: every piece's first form is one of them. -/
import Derived.Test.YtbplnjigoghboaaPiecesN
namespace Go.Proofs.Ytbplnjigoghboaa

theorem forms_mvd {p : List Ce} (h : PieceOk p) : formsV (mvd p) = formsV p := by
  have e : mvdV stayC p = mvd p := by rw [mvdV_ok stayC h, map_stay]
  have := (forms_of_form (moved_mem h)).1
  rwa [e] at this
theorem first_mvd {p q : List Ce} (hp : PieceOk p) (hq : PieceOk q) (h : mvd p = mvd q) : firstV p = firstV q := by
  unfold firstV
  rw [← forms_mvd hp, h, forms_mvd hq]
theorem ok_snocB {p : List Ce} (h : PieceOk p) (hl : p.length < 5) {c x : Ce} (hc : c ∈ p) (hx : adjC x c) (hn : x ∉ p) (hb : -9 ≤ x.1 ∧ x.1 ≤ 9 ∧ -9 ≤ x.2 ∧ x.2 ≤ 9) : PieceOk (p ++ [x]) := by
  obtain ⟨⟨l1, l2⟩, h2, h3, h4⟩ := h
  have hh : (p ++ [x]).headD (0, 0) = p.headD (0, 0) := by
    cases p with
    | nil => simp at l1
    | cons a l => rfl
  refine ⟨⟨by simp, by simp; omega⟩, ?_, ?_, ?_⟩
  · intro d hd
    rcases List.mem_append.1 hd with hd | hd
    · exact h2 d hd
    · simp at hd
      subst hd
      exact hb
  · rw [List.nodup_append]
    refine ⟨h3, by simp, fun a ha b hb e => ?_⟩
    simp at hb
    subst hb; subst e
    exact hn ha
  · rw [hh]
    intro a ha
    have hr : ∀ b ∈ p, ReachC (p ++ [x]) (p.headD (0, 0)) b := fun b hb => reach_mono (h4 b hb) (fun y hy => List.mem_append_left _ hy)
    rcases List.mem_append.1 ha with ha | ha
    · exact hr a ha
    · simp at ha
      subst ha
      exact .step c _ (hr c hc) (by simp) hx
/-- a part of a piece that hangs together can be grown within it -/
theorem part_more {p L : List Ce} (h : PieceOk p) (hL : PieceOk L) (hs : ∀ a ∈ L, a ∈ p) (hh : L.headD (0, 0) = p.headD (0, 0)) (hl : L.length < p.length) :
    ∃ a b, a ∈ L ∧ b ∈ p ∧ adjC b a ∧ b ∉ L ∧ PieceOk (L ++ [b]) := by
  obtain ⟨⟨l1, l2⟩, h2, h3, h4⟩ := h
  have hex : ∃ a b, a ∈ L ∧ b ∈ p ∧ adjC b a ∧ b ∉ L := by
    refine Classical.byContradiction fun hk => ?_
    have hcl : closedC p L := fun a ha b hb hab => Classical.byContradiction fun hn => hk ⟨a, b, ha, hb, hab, hn⟩
    have hstart : p.headD (0, 0) ∈ L := by
      rw [← hh]
      have := hL.1.1
      cases L with
      | nil => simp at this
      | cons a l => simp
    have hS : SoC p (p.headD (0, 0)) L := ⟨hL.2.2.1, hs, fun a ha => h4 a (hs a ha), hstart⟩
    have := nodup_le p L h3 (fun a ha => hS.all hcl a (h4 a ha))
    omega
  obtain ⟨a, b, ha, hb, hab, hn⟩ := hex
  exact ⟨a, b, ha, hb, hab, hn, ok_snocB hL (by omega) ha hab hn (h2 b hb)⟩
theorem part_ex {p : List Ce} (h : PieceOk p) : ∀ k, 1 ≤ k → k ≤ p.length → ∃ L, L.length = k ∧ PieceOk L ∧ (∀ a ∈ L, a ∈ p) ∧ L.headD (0, 0) = p.headD (0, 0)
  | 0, h0, _ => by omega
  | 1, _, _ => by
    obtain ⟨⟨l1, l2⟩, h2, -, -⟩ := h
    have hm : p.headD (0, 0) ∈ p := by cases p with | nil => simp at l1 | cons a l => simp
    refine ⟨[p.headD (0, 0)], rfl, ⟨⟨by simp, by simp⟩, ?_, by simp, ?_⟩, ?_, rfl⟩
    · intro c hc; rw [List.mem_singleton.1 hc]; exact h2 _ hm
    · intro c hc; rw [List.mem_singleton.1 hc]; exact .base
    · intro c hc; rw [List.mem_singleton.1 hc]; exact hm
  | k + 2, _, hk => by
    obtain ⟨L, e1, e2, e3, e4⟩ := part_ex h (k + 1) (by omega) (by omega)
    obtain ⟨a, b, ha, hb, hab, hn, hok⟩ := part_more h e2 e3 e4 (by omega)
    refine ⟨L ++ [b], by simp [e1], hok, fun c hc => ?_, ?_⟩
    · rcases List.mem_append.1 hc with hc | hc
      · exact e3 c hc
      · simp at hc; rw [hc]; exact hb
    · cases L with
      | nil => simp at e1
      | cons a l => exact e4
/-- the k-th turn or mirror -/
def gAt (k : Nat) : Ce → Ce := if k < 4 then turnN k else turnFlip (k - 4)
theorem walk_gAt (p : List Ce) (k : Nat) : walkF p k = mvd (p.map (gAt k)) := by
  unfold walkF gAt fmC
  split <;> rfl
theorem adj_turnN (n : Nat) {a b : Ce} (h : adjC a b) : adjC (turnN n a) (turnN n b) := by
  induction n with
  | zero => exact h
  | succ n ih => unfold turnN; unfold adjC turnC at *; simp only; omega
theorem adj_flip {a b : Ce} (h : adjC a b) : adjC (flipC a) (flipC b) := by unfold adjC flipC at *; simp only; omega
theorem adj_gAt (k : Nat) {a b : Ce} (h : adjC a b) : adjC (gAt k a) (gAt k b) := by
  unfold gAt
  split
  · exact adj_turnN k h
  · exact adj_turnN _ (adj_flip h)
theorem inj_turnN (n : Nat) {a b : Ce} (h : turnN n a = turnN n b) : a = b := by
  induction n with
  | zero => exact h
  | succ n ih =>
    unfold turnN turnC at h
    injection h with h1 h2
    exact ih (Prod.ext (by omega) (by omega))
theorem inj_gAt (k : Nat) {a b : Ce} (h : gAt k a = gAt k b) : a = b := by
  unfold gAt at h
  split at h
  · exact inj_turnN k h
  · have := inj_turnN _ h
    unfold flipC at this
    injection this with h1 h2
    exact Prod.ext (by omega) (by omega)
/-- every piece's first form is one of them -/
theorem first_in : ∀ n, ∀ p, PieceOk p → p.length = n → firstV p ∈ allP n
  | 0, p, h, hl => by have := h.1.1; omega
  | 1, p, h, hl => by
    have e : mvd p = mvd [((0 : Int), (0 : Int))] := by
      match p, hl with
      | [c], _ =>
        rw [← mvdK_eq, ← mvdK_eq]
        unfold mvdK loP loK subC
        simp [isortC, insC]
    rw [first_mvd h one_ok.ok e, one_ok.first]
    simp [allP]
  | n + 2, p, h, hl => by
    obtain ⟨L, e1, e2, e3, e4⟩ := part_ex h (n + 1) (by omega) (by omega)
    obtain ⟨a, b, ha, hb, hab, hn, hok⟩ := part_more h e2 e3 e4 (by omega)
    have hih := first_in (n + 1) L e2 e1
    have hAO := allP_ok (n + 1) (by have := h.1.2; omega) _ hih
    have hperm : (L ++ [b]).Perm p := perm_of_sub _ _ hok.2.2.1 (fun c hc => by
      rcases List.mem_append.1 hc with hc | hc
      · exact e3 c hc
      · simp at hc; rw [hc]; exact hb) (by simp; omega)
    have hpne : p ≠ [] := by rintro rfl; simp at hl
    have hfp : firstV (L ++ [b]) = firstV p := first_mvd hok h (mvd_perm hpne hperm)
    have hmem := first_mem e2
    rw [formsV_ok e2, incOf_mem, walkF_mem] at hmem
    obtain ⟨k, hk, ek⟩ := hmem
    obtain ⟨f, hf⟩ : ∃ f : Ce → Ce, f = fun c => subC (loP (L.map (gAt k))) (gAt k c) := ⟨_, rfl⟩
    have hFL : (firstV L).Perm (L.map f) := by
      rw [← ek, walk_gAt]
      have := mvd_perm0 (L.map (gAt k))
      rw [List.map_map] at this
      rw [hf]; exact this
    have hfadj : adjC (f b) (f a) := by
      have := adj_gAt k hab
      rw [hf]
      unfold adjC subC at *
      simp only at *
      omega
    have hfa : f a ∈ firstV L := hFL.mem_iff.2 (List.mem_map_of_mem ha)
    have hfn : f b ∉ firstV L := fun hm => by
      obtain ⟨c, hc, e⟩ := List.mem_map.1 (hFL.mem_iff.1 hm)
      rw [hf] at e
      have := inj_gAt k (subC_inj e)
      exact hn (this ▸ hc)
    have hQ : PieceOk (firstV L ++ [f b]) := ok_snoc hAO.ok (by rw [hAO.len]; have := h.1.2; omega) hfa hfadj hfn (fun d hd => by have := hAO.edge d hd; omega)
    have hQp : (firstV L ++ [f b]).Perm ((L ++ [b]).map f) := by
      rw [List.map_append]
      exact hFL.append_right _
    have hne : (L ++ [b]).map f ≠ [] := by simp
    have hne2 : (L ++ [b]).map (gAt k) ≠ [] := by simp
    have hQm : mvd (firstV L ++ [f b]) = walkF (L ++ [b]) k := by
      rw [mvd_perm hne hQp, walk_gAt]
      have : (L ++ [b]).map f = ((L ++ [b]).map (gAt k)).map (subC (loP (L.map (gAt k)))) := by
        rw [hf, List.map_map]; rfl
      rw [this, mvd_sub hne2]
    have hQf : firstV (firstV L ++ [f b]) = firstV (L ++ [b]) := by
      unfold firstV
      show (formsV (firstV L ++ [f b])).headD [] = _
      rw [← forms_mvd hQ, hQm, forms_of_walk hok hk]
    rw [← hfp, ← hQf]
    show _ ∈ incOf (growL (allP (n + 1)))
    rw [incOf_mem]
    unfold growL growV
    rw [List.mem_flatMap]
    refine ⟨firstV L, hih, ?_⟩
    rw [List.mem_flatMap]
    refine ⟨f a, hfa, ?_⟩
    rw [List.mem_map]
    refine ⟨f b, ?_, rfl⟩
    unfold newsC
    rw [List.mem_filter]
    exact ⟨adj_near hfadj, by simpa using hfn⟩
end Go.Proofs.Ytbplnjigoghboaa

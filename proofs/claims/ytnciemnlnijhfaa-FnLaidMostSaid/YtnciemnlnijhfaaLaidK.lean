/- The reference's LaidMost, plainly: one dark cell after the other. -/
import Derived.Test.YtnciemnlnijhfaaLaidN
import Derived.Test.YtnciemnlnijhfaaLayS
namespace Go.Proofs.Ytnciemnlnijhfaa
open Go.RowKit

structure LaidK (W T : Int) (bs : List Bool) (L : List Int) (k : Nat) : Prop where
  lay : Lay W T bs L
  max : IsMax (adjL W T bs) bs.length ((darkNn W bs).take k) (ownL W T L)
  dark : ∀ d : Nat, darkB W d = true → L.getD d 0 ≠ 0 → d ∈ (darkNn W bs).take k
  eq : cntX isE L bs.length = cntX (isLm W) L bs.length
theorem own_light {W T : Int} (L : List Int) (n : Nat) : szM (ownL W T L) n = cntX (isLm W) L n := by
  unfold szM cntX
  congr 1
  funext l
  unfold ownL isLm
  by_cases h : darkB W l = false ∧ L.getD l 0 ≠ 0
  · rw [if_pos h, h.1, decide_eq_true h.2]; rfl
  · rw [if_neg h]
    cases h1 : darkB W l with
    | true => simp
    | false =>
      have h2 : L.getD l 0 = 0 := Decidable.byContradiction fun e => h ⟨h1, e⟩
      rw [decide_eq_false (fun (e : L.getD l 0 ≠ 0) => e h2)]; rfl
theorem own_isM {W T : Int} {bs : List Bool} (hf : Fld W T bs) {L : List Int} (h : Lay W T bs L) {D : List Nat} (hd : ∀ d : Nat, darkB W d = true → L.getD d 0 ≠ 0 → d ∈ D) : IsM (adjL W T bs) bs.length D (ownL W T L) := by
  have hn := hf.n
  have hlen := h.len
  have key : ∀ l d, ownL W T L l = some d → darkB W l = false ∧ L.getD l 0 ≠ 0 ∧ l < bs.length ∧ bs.getD l false = true ∧ stepZ W T l (L.getD l 0) = d ∧ L.getD d 0 = backZ (L.getD l 0) ∧ darkB W d = true ∧ stepZ W T d (backZ (L.getD l 0)) = l ∧ 1 ≤ L.getD l 0 ∧ L.getD l 0 ≤ 4 := by
    intro l d e
    unfold ownL at e
    by_cases hc : darkB W l = false ∧ L.getD l 0 ≠ 0
    · rw [if_pos hc] at e
      injection e with e
      obtain ⟨h1, h2⟩ := hc
      have hl : l < L.length := by
        rcases Nat.lt_or_ge l L.length with h3 | h3
        · exact h3
        · rw [List.getD_eq_getElem?_getD, List.getElem?_eq_none h3] at h2; exact absurd rfl h2
      obtain ⟨t, t1, t2, t3, t4⟩ := h.ok l hl h2
      rw [t1, Int.toNat_natCast] at e
      subst e
      obtain ⟨d', e1, e2, e3, -, e5, e6, e7⟩ := step_infoL hf (c := l) (by omega) h1 (way := L.getD l 0) (by omega)
      obtain rfl : d' = t := by omega
      exact ⟨h1, h2, by omega, t2, t1, t4, e3, e5, e6, e7⟩
    · rw [if_neg hc] at e; cases e
  refine ⟨fun l d e => ?_, fun l l' d e e' => ?_⟩
  · obtain ⟨h1, h2, h3, h4, h5, h6, h7, h8, h9, h10⟩ := key l d e
    have hb := back_bd (L.getD l 0)
    exact ⟨h3, hd d h7 (by rw [h6]; omega), backZ (L.getD l 0), hb.1, hb.2, h8, h4⟩
  · obtain ⟨-, -, -, -, -, h6, -, h8, h9, h10⟩ := key l d e
    obtain ⟨-, -, -, -, -, g6, -, g8, g9, g10⟩ := key l' d e'
    have e3 : L.getD l 0 = L.getD l' 0 := by
      have a := (back_ne _ h9 h10).2.2.2
      have b := (back_ne _ g9 g10).2.2.2
      rw [← a, ← b, ← h6, ← g6]
    rw [e3, g8] at h8
    omega
theorem LaidK.start {W T : Int} {bs : List Bool} : LaidK W T bs (List.replicate bs.length 0) 0 := by
  have hz : ∀ k, (List.replicate bs.length (0 : Int)).getD k 0 = 0 := fun k => by
    rw [List.getD_eq_getElem?_getD, List.getElem?_replicate]; split <;> rfl
  refine ⟨⟨by simp, fun k _ h => absurd (hz k) h⟩, ?_, fun d _ h => absurd (hz d) h, ?_⟩
  · rw [show ownL W T (List.replicate bs.length 0) = fun _ => none from by funext l; unfold ownL; rw [if_neg (fun h => h.2 (hz l))]]
    exact IsMax.nil _ _
  · have e : ∀ (q : Nat → Int → Bool), (∀ k, q k 0 = false) → cntX q (List.replicate bs.length 0) bs.length = 0 := fun q hq => by
      unfold cntX; rw [List.countP_eq_zero]; intro k _; rw [hz, hq]; simp
    rw [e isE (fun k => by unfold isE; simp), e (isLm W) (fun k => by unfold isLm; simp)]
section
variable {W T : Int} {bs : List Bool} {L : List Int} {k : Nat}
theorem take_get {D : List Nat} (h : k < D.length) : D.take (k + 1) = D.take k ++ [D[k]] := by
  rw [List.take_succ_eq_append_getElem h]
theorem not_take {D : List Nat} (hnd : D.Nodup) (h : k < D.length) : D[k] ∉ D.take k := fun e => by
  obtain ⟨i, hi, e2⟩ := List.getElem_of_mem e
  rw [List.getElem_take] at e2
  have hi' : i < k := by simp at hi; omega
  exact List.pairwise_iff_getElem.1 hnd i k (by omega) h hi' e2
theorem LaidK.free (h : LaidK W T bs L k) (hk : k < (darkNn W bs).length) : Free W T bs L ((darkNn W bs)[k]) := by
  obtain ⟨a, b, c⟩ := darkNn_mem.1 (List.getElem_mem hk)
  refine ⟨h.lay, a, b, c, ?_⟩
  exact Decidable.byContradiction fun e => not_take (darkNn_nodup W bs) hk (h.dark _ c e)
theorem unseen_rep (n : Nat) : unseen (List.replicate n false) = n := by
  unfold unseen; rw [List.countP_replicate]; simp
theorem LaidK.step_t (hf : Fld W T bs) (h : LaidK W T bs L k) (hk : k < (darkNn W bs).length) {f : Nat} (hr : (bet W T bs f L ((darkNn W bs)[k]) (List.replicate bs.length false)).2.2 = true) :
    LaidK W T bs (bet W T bs f L ((darkNn W bs)[k]) (List.replicate bs.length false)).1 (k + 1) := by
  have g := bet_grows hf f L _ _ (h.free hk) hr
  generalize (bet W T bs f L ((darkNn W bs)[k]) (List.replicate bs.length false)).1 = L' at g
  have hdk : ∀ d : Nat, darkB W d = true → L'.getD d 0 ≠ 0 → d ∈ (darkNn W bs).take (k + 1) := fun d h1 h2 => by
    rw [take_get hk, List.mem_append]
    rcases (g.dark d h1).1 h2 with h3 | h3
    · exact .inl (h.dark d h1 h3)
    · exact .inr (by simp [h3])
  refine ⟨g.lay, ?_, hdk, by rw [g.many, g.light, h.eq]⟩
  have hm := own_isM hf g.lay hdk
  rw [take_get hk] at hm ⊢
  exact h.max.more hm (by rw [own_light, own_light, g.light])
theorem LaidK.step_f (hf : Fld W T bs) (h : LaidK W T bs L k) (hk : k < (darkNn W bs).length) (hr : (bet W T bs (bs.length + 1) L ((darkNn W bs)[k]) (List.replicate bs.length false)).2.2 = false) :
    LaidK W T bs L (k + 1) := by
  have s := bet_stuck hf (bs.length + 1) L _ _ (h.free hk) (by simp) (by rw [unseen_rep]; omega) hr
  generalize (bet W T bs (bs.length + 1) L ((darkNn W bs)[k]) (List.replicate bs.length false)).2.1 = S at s
  refine ⟨h.lay, ?_, fun d h1 h2 => by rw [take_get hk]; exact List.mem_append_left _ (h.dark d h1 h2), h.eq⟩
  rw [take_get hk]
  have hz : ∀ l, (List.replicate bs.length false).getD l false = false := fun l => by
    rw [List.getD_eq_getElem?_getD, List.getElem?_replicate]; split <;> rfl
  refine h.max.same (not_take (darkNn_nodup W bs) hk) ⟨fun l => S.getD l false, ?_, ?_⟩
  · rintro l ⟨way, w1, w2, hs, hb⟩
    exact s.near way l (by omega) w2 hs hb
  · intro l hl
    obtain ⟨n1, n2, o, n3, n4⟩ := s.new l hl (hz l)
    refine ⟨o, ?_, ?_⟩
    · unfold ownL; rw [if_pos ⟨n1, n2⟩, n3]; rfl
    · rintro l' ⟨way, w1, w2, hs, hb⟩
      exact n4 way l' w1 w2 hs hb
theorem LaidK.done (hf : Fld W T bs) (h : LaidK W T bs L (darkNn W bs).length) : cntX isE L bs.length = laidN W T bs := by
  have hm := h.max
  rw [List.take_length] at hm
  rw [h.eq, ← own_light (T := T), laid_of hf hm]
theorem Lay.lays (h : Lay W T bs L) : laysB W T bs L = true := by
  refine laysB_t h.len (fun k hk => ?_)
  by_cases h0 : L.getD k 0 = 0
  · unfold laidAt; rw [if_pos h0]
  · obtain ⟨t, t1, t2, t3, t4⟩ := h.ok k hk h0
    rw [laidAt_in h0 t1, t2, t3, decide_eq_true t4]; rfl
theorem fld_of (hv : validB W T bs = true) : Fld W T bs := by
  obtain ⟨h1, h2, h3, h4, -, h6⟩ := valid_len hv
  exact ⟨h1, h2, h3, h4, h6⟩
end
end Go.Proofs.Ytnciemnlnijhfaa

/- How many dominoes can be laid, plainly: both ways to count, and the worst set. -/
import Derived.Test.YtnciemnlnijhfaaKonN
import Derived.Test.YtnciemnlnijhfaaBetN
import Derived.Test.YtnciemnlnijhfaaLackN
namespace Go.Proofs.Ytnciemnlnijhfaa
open Go.RowKit

/-- the light cells beside one -/
def nbN (W T : Int) (bs : List Bool) (d : Nat) : List Nat := (besL W T bs [(d : Int)]).map Int.toNat
theorem mem_bes {W T : Int} {bs : List Bool} {cells : List Int} {l : Nat} : (l : Int) ∈ besL W T bs cells ↔ l < bs.length ∧ bs.getD l false = true ∧ ∃ way : Int, 1 ≤ way ∧ way ≤ 4 ∧ 0 ≤ stepZ W T l way ∧ stepZ W T l way ∈ cells := by
  unfold besL
  rw [mem_pick]
  constructor
  · rintro ⟨i, hi, hp, e⟩
    obtain rfl : l = i := by omega
    unfold isBes at hp
    rw [Bool.and_eq_true, nbr_iff] at hp
    obtain ⟨hb, d, d1, d2, h⟩ := hp
    exact ⟨hi, hb, d, d1, by omega, h⟩
  · rintro ⟨hi, hb, d, d1, d2, h⟩
    refine ⟨l, hi, ?_, rfl⟩
    unfold isBes
    rw [Bool.and_eq_true, nbr_iff]
    exact ⟨hb, d, d1, by omega, h⟩
theorem mem_nb {W T : Int} {bs : List Bool} {d l : Nat} : l ∈ nbN W T bs d ↔ (l : Int) ∈ besL W T bs [(d : Int)] := by
  unfold nbN
  rw [List.mem_map]
  constructor
  · rintro ⟨x, hx, rfl⟩
    have : 0 ≤ x := by
      unfold besL at hx
      obtain ⟨i, -, -, rfl⟩ := mem_pick.1 hx
      omega
    rw [show ((x.toNat : Nat) : Int) = x by omega]; exact hx
  · intro h; exact ⟨_, h, by simp⟩
theorem nb_lt {W T : Int} {bs : List Bool} (d l : Nat) (h : l ∈ nbN W T bs d) : l < bs.length := (mem_bes.1 (mem_nb.1 h)).1
theorem nb_adj {W T : Int} {bs : List Bool} (hf : Fld W T bs) {d : Nat} (hd : d < bs.length) (l : Nat) : l ∈ nbN W T bs d ↔ adjL W T bs d l := by
  have hn := hf.n
  rw [mem_nb, mem_bes]
  unfold adjL
  constructor
  · rintro ⟨hl, hb, way, w1, w2, s0, hs⟩
    have hs' : stepZ W T l way = d := by simpa using hs
    obtain ⟨b1, b2⟩ := back_bd way
    have hr := step_rev (W := W) (T := T) (c := (l : Int)) (d := way) hf.w1 hf.w6 hf.t1 hf.t6 (by omega) (by omega) w1 w2 s0
    rw [hs'] at hr
    exact ⟨backZ way, b1, b2, hr, hb⟩
  · rintro ⟨way, w1, w2, hs, hb⟩
    have hbd := step_bd (W := W) (T := T) (c := (d : Int)) way hf.w1 hf.w6 hf.t1 hf.t6 (by omega) (by omega)
    obtain ⟨b1, b2⟩ := back_bd way
    have hr := step_rev (W := W) (T := T) (c := (d : Int)) (d := way) hf.w1 hf.w6 hf.t1 hf.t6 (by omega) (by omega) w1 w2 (by omega)
    rw [hs] at hr
    exact ⟨by omega, hb, backZ way, b1, b2, by omega, by rw [hr]; simp⟩
def darkNn (W : Int) (bs : List Bool) : List Nat := (List.range bs.length).filter (isCol W bs true)
theorem darkNn_eq (W : Int) (bs : List Bool) : darkL W bs true = (darkNn W bs).map fun i : Nat => (i : Int) := rfl
theorem darkNn_mem {W : Int} {bs : List Bool} {d : Nat} : d ∈ darkNn W bs ↔ d < bs.length ∧ bs.getD d false = true ∧ darkB W d = true := by
  unfold darkNn isCol
  rw [List.mem_filter, List.mem_range]
  simp
theorem darkNn_nodup (W : Int) (bs : List Bool) : (darkNn W bs).Nodup := List.nodup_range.filter _
/-- one dark cell after the other -/
def runF (nb : Nat → List Nat) (f : Nat) : List Nat → (Nat → Option Nat) → Nat → (Nat → Option Nat) × Nat
  | [], M, k => (M, k)
  | d :: ds, M, k => runF nb f ds (tryF nb f M d (fun _ => false)).1 (if (tryF nb f M d (fun _ => false)).2.2 = true then k + 1 else k)
theorem runF_max {nb : Nat → List Nat} {n f : Nat} (hnb : ∀ d l, l ∈ nb d → l < n) (hf : n < f) : ∀ (ds D0 : List Nat) (M : Nat → Option Nat) (k : Nat), (D0 ++ ds).Nodup → IsMax (fun d l => l ∈ nb d) n D0 M → szM M n = k →
    IsMax (fun d l => l ∈ nb d) n (D0 ++ ds) (runF nb f ds M k).1 ∧ szM (runF nb f ds M k).1 n = (runF nb f ds M k).2
  | [], D0, M, k, _, h, hk => by rw [List.append_nil]; exact ⟨h, hk⟩
  | d :: ds, D0, M, k, hnd, h, hk => by
    have hd : d ∉ D0 := fun e => by
      have := (List.nodup_append.1 hnd).2.2 d e d (by simp)
      exact this rfl
    have hk2 : D0 ++ d :: ds = (D0 ++ [d]) ++ ds := by simp
    rw [hk2] at hnd ⊢
    obtain ⟨t1, t2⟩ := try_max hnb h hd hf
    show IsMax _ _ _ (runF nb f ds _ _).1 ∧ szM (runF nb f ds _ _).1 n = (runF nb f ds _ _).2
    cases hr : (tryF nb f M d (fun _ => false)).2.2 with
    | true =>
      obtain ⟨a, b⟩ := t1 hr
      rw [if_pos rfl]
      exact runF_max hnb hf ds (D0 ++ [d]) _ _ hnd a (by omega)
    | false =>
      obtain ⟨a, b⟩ := t2 hr
      rw [if_neg (by simp), a]
      exact runF_max hnb hf ds (D0 ++ [d]) _ _ hnd b hk
/-- how many dominoes can be laid -/
def laidN (W T : Int) (bs : List Bool) : Nat := (runF (nbN W T bs) (bs.length + 1) (darkNn W bs) (fun _ => none) 0).2
def laidZ (W T : Int) (bs : List Bool) : Int := if validB W T bs = true then (laidN W T bs : Int) else -1
theorem szM_zero (n : Nat) : szM (fun _ => none) n = 0 := by unfold szM; simp
theorem laid_max (W T : Int) (bs : List Bool) : ∃ M, IsMax (fun d l => l ∈ nbN W T bs d) bs.length (darkNn W bs) M ∧ szM M bs.length = laidN W T bs := by
  obtain ⟨a, b⟩ := runF_max (nb := nbN W T bs) (n := bs.length) (f := bs.length + 1) nb_lt (by omega) (darkNn W bs) [] (fun _ => none) 0 (by simpa using darkNn_nodup W bs) (IsMax.nil _ _) (szM_zero _)
  exact ⟨_, by simpa using a, b⟩
theorem laid_of {W T : Int} {bs : List Bool} (hf : Fld W T bs) {M : Nat → Option Nat} (h : IsMax (adjL W T bs) bs.length (darkNn W bs) M) : szM M bs.length = laidN W T bs := by
  obtain ⟨M', a, b⟩ := laid_max W T bs
  have h' := h.congr (adj' := fun d l => l ∈ nbN W T bs d) (fun d hd l => (nb_adj hf (darkNn_mem.1 hd).1 l).symm)
  rw [h'.uniq a, b]
theorem laidN_le (W T : Int) (bs : List Bool) : laidN W T bs ≤ bs.length := by
  obtain ⟨M, -, b⟩ := laid_max W T bs
  rw [← b]
  unfold szM
  exact Nat.le_trans List.countP_le_length (by simp)
/-! ### The worst set -/
theorem sel_upN {D : List Int} (hD : D.Pairwise (· < ·)) (s k : Nat) (hk : k ≤ D.length) : (selTo D s k).Pairwise (· < ·) := by
  induction k with
  | zero => exact List.Pairwise.nil
  | succ k ih =>
    have ih := ih (by omega)
    cases h : s.testBit k with
    | false => rw [sel_f h]; exact ih
    | true =>
      rw [sel_t h, List.pairwise_append]
      refine ⟨ih, by simp, fun x hx y hy => ?_⟩
      obtain ⟨i, hi, -, rfl⟩ := sel_mem.1 hx
      simp at hy; subst hy
      rw [List.getD_eq_getElem?_getD]
      have := List.pairwise_iff_getElem.1 hD i k (by omega) (by omega) hi
      rw [List.getElem?_eq_getElem (show i < D.length by omega), List.getElem?_eq_getElem (show k < D.length by omega)]
      exact this
theorem near_bes {W T : Int} {bs : List Bool} {D : List Nat} {p : Nat → Bool} {cells : List Int} (h : ∀ x : Int, x ∈ cells ↔ ∃ d ∈ D, p d = true ∧ x = d) : nearN (nbN W T bs) bs.length D p = (besL W T bs cells).length := by
  unfold nearN besL pickTo
  rw [List.length_map, List.countP_eq_length_filter]
  congr 1
  refine List.filter_congr (fun l hl => ?_)
  rw [List.mem_range] at hl
  have e : (D.any fun d => p d && decide (l ∈ nbN W T bs d)) = true ↔ isBes W T bs cells l = true := by
    unfold isBes
    rw [List.any_eq_true, Bool.and_eq_true, nbr_iff]
    constructor
    · rintro ⟨d, hd, e⟩
      simp only [Bool.and_eq_true, decide_eq_true_eq] at e
      obtain ⟨hp, e⟩ := e
      rw [mem_nb, mem_bes] at e
      obtain ⟨-, hb, way, w1, w2, s0, hs⟩ := e
      exact ⟨hb, way, w1, by omega, s0, (h _).2 ⟨d, hd, hp, by simpa using hs⟩⟩
    · rintro ⟨hb, way, w1, w2, s0, hs⟩
      obtain ⟨d, hd, hp, e⟩ := (h _).1 hs
      refine ⟨d, hd, ?_⟩
      rw [hp, Bool.true_and, decide_eq_true_eq, mem_nb, mem_bes]
      exact ⟨hl, hb, way, w1, by omega, s0, by rw [e]; simp⟩
  rcases Bool.eq_false_or_eq_true (isBes W T bs cells l) with h2 | h2
  · rw [h2]; exact e.2 h2
  · rw [h2]
    cases h3 : (D.any fun d => p d && decide (l ∈ nbN W T bs d)) with
    | false => rfl
    | true => rw [e.1 h3] at h2; cases h2
theorem mask_of (p : Nat → Bool) (k : Nat) : ∃ s, s < 2 ^ k ∧ ∀ i, i < k → s.testBit i = p i := by
  induction k with
  | zero => exact ⟨0, by simp, fun i h => by omega⟩
  | succ k ih =>
    obtain ⟨s, h1, h2⟩ := ih
    cases hp : p k with
    | false =>
      refine ⟨s, by rw [Nat.pow_succ]; omega, fun i hi => ?_⟩
      rcases Nat.lt_or_ge i k with h3 | h3
      · exact h2 i h3
      · obtain rfl : i = k := by omega
        rw [hp, Nat.testBit_lt_two_pow h1]
    | true =>
      refine ⟨s + 2 ^ k, by rw [Nat.pow_succ]; omega, fun i hi => ?_⟩
      rw [Nat.add_comm]
      rcases Nat.lt_or_ge i k with h3 | h3
      · rw [Nat.testBit_two_pow_add_gt h3]; exact h2 i h3
      · obtain rfl : i = k := by omega
        rw [Nat.testBit_two_pow_add_eq, Nat.testBit_lt_two_pow h1, hp]; rfl
theorem best_all (W T : Int) (bs : List Bool) (D : List Int) : ∀ N s, s < N → lackZ W T bs D s ≤ (bestTo W T bs D N).2 := by
  intro M
  induction M with
  | zero => intro s h; omega
  | succ M ih =>
    intro s h
    rw [best_max]
    rcases Nat.lt_or_ge s M with h1 | h1
    · have := ih s h1; omega
    · obtain rfl : s = M := by omega
      omega
/-- the greatest lack is what is missing at most -/
theorem lack_laid (W T : Int) (bs : List Bool) : (bestTo W T bs (darkL W bs true) (2 ^ (darkL W bs true).length)).2 = (darkL W bs true).length - (laidN W T bs : Int) := by
  obtain ⟨M, hM, hsz⟩ := laid_max W T bs
  have hDl : (darkL W bs true).length = (darkNn W bs).length := by rw [darkNn_eq, List.length_map]
  have hup : (darkL W bs true).Pairwise (· < ·) := pick_sorted _ _
  have hDe := darkNn_eq W bs
  -- the set of a mask
  have hset : ∀ s, ∃ p : Nat → Bool, (selTo (darkL W bs true) s (darkL W bs true).length).length = ((darkNn W bs).filter p).length ∧ (besL W T bs (selTo (darkL W bs true) s (darkL W bs true).length)).length = nearN (nbN W T bs) bs.length (darkNn W bs) p := by
    intro s
    have hmem : ∀ x : Int, x ∈ selTo (darkL W bs true) s (darkL W bs true).length ↔ ∃ d ∈ darkNn W bs, decide ((d : Int) ∈ selTo (darkL W bs true) s (darkL W bs true).length) = true ∧ x = d := by
      intro x
      constructor
      · intro hx
        obtain ⟨i, hi, -, e⟩ := sel_mem.1 hx
        have hxm : x ∈ darkL W bs true := by
          rw [← e, List.getD_eq_getElem?_getD, List.getElem?_eq_getElem hi]; exact List.getElem_mem hi
        rw [hDe, List.mem_map] at hxm
        obtain ⟨d, hd, e2⟩ := hxm
        exact ⟨d, hd, by rw [decide_eq_true_eq, e2]; exact hx, e2.symm⟩
      · rintro ⟨d, -, h1, rfl⟩; simpa using h1
    refine ⟨fun d => decide ((d : Int) ∈ selTo (darkL W bs true) s (darkL W bs true).length), ?_, (near_bes hmem).symm⟩
    have hs1 := sel_upN hup s _ (Nat.le_refl _)
    have hs2 : (((darkNn W bs).filter fun d : Nat => decide ((d : Int) ∈ selTo (darkL W bs true) s (darkL W bs true).length)).map fun i : Nat => (i : Int)).Pairwise (· < ·) := by
      rw [hDe] at hup
      rw [List.pairwise_map] at hup ⊢
      exact hup.filter _
    have e := congrArg List.length (lt_unique hs1 hs2 (fun x => by
      rw [hmem, List.mem_map]
      constructor
      · rintro ⟨d, h1, h2, h3⟩; exact ⟨d, by rw [List.mem_filter]; exact ⟨h1, h2⟩, h3.symm⟩
      · rintro ⟨d, h1, h2⟩; rw [List.mem_filter] at h1; exact ⟨d, h1.1, h1.2, h2.symm⟩))
    rw [List.length_map] at e
    exact e
  have hle : ∀ s, lackZ W T bs (darkL W bs true) s ≤ (darkL W bs true).length - (laidN W T bs : Int) := by
    intro s
    obtain ⟨p, e1, e2⟩ := hset s
    have := kon_le hM.1 p
    unfold lackZ
    rw [e1, e2, hDl]
    omega
  have hpow : 2 ^ (darkL W bs true).length = (2 ^ (darkL W bs true).length - 1) + 1 := by have := Nat.one_le_two_pow (n := (darkL W bs true).length); omega
  obtain ⟨h1, h2, -⟩ := best_at W T bs (darkL W bs true) (2 ^ (darkL W bs true).length - 1)
  rw [← hpow] at h1 h2
  have hlo : (bestTo W T bs (darkL W bs true) (2 ^ (darkL W bs true).length)).2 ≤ (darkL W bs true).length - (laidN W T bs : Int) := by rw [← h2]; exact hle _
  obtain ⟨p, hp⟩ := kon_ge nb_lt (darkNn_nodup W bs) hM
  obtain ⟨s, hs, hb⟩ := mask_of (fun i => p ((darkL W bs true).getD i 0).toNat) (darkL W bs true).length
  have hge := best_all W T bs (darkL W bs true) _ s hs
  have hmem : ∀ x : Int, x ∈ selTo (darkL W bs true) s (darkL W bs true).length ↔ ∃ d ∈ darkNn W bs, p d = true ∧ x = d := by
    intro x
    rw [sel_mem]
    constructor
    · rintro ⟨i, hi, hbi, e⟩
      rw [hb i hi, e] at hbi
      have hxm : x ∈ darkL W bs true := by
        rw [← e, List.getD_eq_getElem?_getD, List.getElem?_eq_getElem hi]; exact List.getElem_mem hi
      rw [hDe, List.mem_map] at hxm
      obtain ⟨d, hd, e2⟩ := hxm
      exact ⟨d, hd, by rw [← e2, Int.toNat_natCast] at hbi; exact hbi, e2.symm⟩
    · rintro ⟨d, hd, hpd, rfl⟩
      have : (d : Int) ∈ darkL W bs true := by rw [hDe, List.mem_map]; exact ⟨d, hd, rfl⟩
      obtain ⟨i, hi, e⟩ := List.getElem_of_mem this
      have e2 : (darkL W bs true).getD i 0 = d := by rw [List.getD_eq_getElem?_getD, List.getElem?_eq_getElem hi]; exact e
      exact ⟨i, hi, by rw [hb i hi, e2, Int.toNat_natCast]; exact hpd, e2⟩
  have hs1 := sel_upN hup s _ (Nat.le_refl _)
  have hs2 : (((darkNn W bs).filter p).map fun i : Nat => (i : Int)).Pairwise (· < ·) := by
    have hup' := hup
    rw [hDe] at hup'
    rw [List.pairwise_map] at hup' ⊢
    exact hup'.filter _
  have hlen : (selTo (darkL W bs true) s (darkL W bs true).length).length = ((darkNn W bs).filter p).length := by
    have e := congrArg List.length (lt_unique hs1 hs2 (fun x => by
      rw [hmem, List.mem_map]
      constructor
      · rintro ⟨d, h1, h2, h3⟩; exact ⟨d, by rw [List.mem_filter]; exact ⟨h1, h2⟩, h3.symm⟩
      · rintro ⟨d, h1, h2⟩; rw [List.mem_filter] at h1; exact ⟨d, h1.1, h1.2, h2.symm⟩))
    rw [List.length_map] at e
    exact e
  have hz : lackZ W T bs (darkL W bs true) s = ((darkNn W bs).filter p).length - (nearN (nbN W T bs) bs.length (darkNn W bs) p : Int) := by
    unfold lackZ; rw [hlen, ← near_bes hmem]
  omega
end Go.Proofs.Ytnciemnlnijhfaa

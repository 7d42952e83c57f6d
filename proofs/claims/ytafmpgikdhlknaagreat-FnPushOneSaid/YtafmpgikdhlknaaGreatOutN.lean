
/- What hangs together outside of a region, plainly: a search from place to place, and a queue of places. -/
import Derived.Test.YtafmpgikdhlknaaGreatShpN
namespace Go.Proofs.YtafmpgikdhlknaaGreat
open Go.RowKit

/-! ### How many places are outside -/
theorem filt_compl {α : Type} (p : α → Bool) : ∀ l : List α, (l.filter p).length + (l.filter fun a => !p a).length = l.length
  | [] => rfl
  | a :: l => by
    have := filt_compl p l
    cases h : p a <;> simp [h] <;> omega
def inK (W T : Int) (bs : List Bool) (k : Nat) : Bool := atQ W T bs ((k : Int) % (W + 2) - 1) ((k : Int) / (W + 2) - 1)
theorem outK_in {W T : Int} {n : Nat} (hf : FldG W T n) {bs : List Bool} {k : Nat} (hk : k < outN W T) : outK W T bs k ↔ inK W T bs k = false := by
  rw [outK_iff hf]
  unfold inK
  exact ⟨fun h => h.2, fun h => ⟨hk, h⟩⟩
theorem in_count {W T : Int} {bs : List Bool} (hf : FldG W T bs.length) : (((List.range (outN W T)).filter (inK W T bs)).length : Int) = cnt bs := by
  have hf2 := out_fld hf
  have hw := hf.w1
  have e := cnt_range bs bs.length (Nat.le_refl _)
  rw [List.take_length] at e
  rw [← e]
  have phi : ∀ j, j < bs.length → ∃ k : Nat, k < outN W T ∧ ((j : Int) / W + 1) * (W + 2) + ((j : Int) % W + 1) = k ∧ (k : Int) % (W + 2) = (j : Int) % W + 1 ∧ (k : Int) / (W + 2) = (j : Int) / W + 1 := fun j hj => by
    obtain ⟨a1, a2, a3, a4, a5⟩ := hf.xy hj
    obtain ⟨k, e, hk, e1, e2⟩ := hf2.at_ (x := (j : Int) % W + 1) (y := (j : Int) / W + 1) (by omega) (by omega) (by omega) (by omega)
    exact ⟨k, hk, e, e1, e2⟩
  have key : ∀ j, j < bs.length → ∀ k : Nat, (((j : Int) / W + 1) * (W + 2) + ((j : Int) % W + 1)).toNat = k → k < outN W T ∧ (k : Int) % (W + 2) = (j : Int) % W + 1 ∧ (k : Int) / (W + 2) = (j : Int) / W + 1 := fun j hj k h => by
    obtain ⟨k', hk, e, e1, e2⟩ := phi j hj
    rw [e, Int.toNat_natCast] at h
    subst h
    exact ⟨hk, e1, e2⟩
  have nA : ((List.range (outN W T)).filter (inK W T bs)).Nodup := List.Pairwise.filter _ List.nodup_range
  have nB0 : ((List.range bs.length).filter fun j => bs.getD j false).Nodup := List.Pairwise.filter _ List.nodup_range
  have nB : (((List.range bs.length).filter fun j => bs.getD j false).map fun j : Nat => (((j : Int) / W + 1) * (W + 2) + ((j : Int) % W + 1)).toNat).Nodup := by
    rw [List.nodup_iff_pairwise_ne, List.pairwise_map] 
    refine List.Pairwise.imp_of_mem ?_ nB0
    intro a b ha hb hne he
    rw [List.mem_filter, List.mem_range] at ha hb
    obtain ⟨h1, h2, h3⟩ := key a ha.1 _ rfl
    obtain ⟨h4, h5, h6⟩ := key b hb.1 _ rfl
    rw [he] at h2 h3
    exact hne (hf.inj ha.1 hb.1 (by omega) (by omega))
  have hlen : ((List.range bs.length).filter fun j => bs.getD j false).length = (((List.range bs.length).filter fun j => bs.getD j false).map fun j : Nat => (((j : Int) / W + 1) * (W + 2) + ((j : Int) % W + 1)).toNat).length := (List.length_map _).symm
  refine congrArg Nat.cast (Nat.le_antisymm ?_ ?_)
  · rw [hlen]
    refine nodup_sub _ _ nA fun k hk => ?_
    rw [List.mem_filter, List.mem_range] at hk
    obtain ⟨hk1, hk2⟩ := hk
    obtain ⟨j, hj, e1, e2, hb⟩ := at_ex hf hk2
    refine List.mem_map.2 ⟨j, List.mem_filter.2 ⟨List.mem_range.2 hj, hb⟩, ?_⟩
    obtain ⟨h1, h2, h3⟩ := key j hj _ rfl
    exact hf2.inj h1 hk1 (by omega) (by omega)
  · rw [hlen]
    refine nodup_sub _ _ nB fun k hk => ?_
    obtain ⟨j, hj, e⟩ := List.mem_map.1 hk
    rw [List.mem_filter, List.mem_range] at hj
    obtain ⟨h1, h2, h3⟩ := key j hj.1 k e
    rw [List.mem_filter, List.mem_range]
    refine ⟨h1, ?_⟩
    unfold inK
    rw [h2, h3, show (j : Int) % W + 1 - 1 = (j : Int) % W by omega, show (j : Int) / W + 1 - 1 = (j : Int) / W by omega, at_k hf hj.1]
    exact hj.2
/-- a set of places that hangs together with the first one is all of them exactly if it has as many -/
theorem out_many {W T : Int} {bs : List Bool} (hf : FldG W T bs.length) {L : List Nat} (hn : L.Nodup) (h1 : ∀ k, k ∈ L ↔ ConnO W T bs 0 k) : ((L.length : Int) = outN W T - cnt bs) ↔ outA W T bs := by
  have hf2 := out_fld hf
  have hz : outK W T bs 0 := (outK_iff hf).2 ⟨by
    have := hf2.len
    have h5 : 0 < (W + 2) * (T + 2) := Int.mul_pos (by have := hf.w1; omega) (by have := hf.t1; omega)
    omega, atQ_f (by simp)⟩
  have hc := filt_compl (inK W T bs) (List.range (outN W T))
  rw [List.length_range] at hc
  have hi := in_count hf
  have hO : ∀ k, k ∈ (List.range (outN W T)).filter (fun k => !inK W T bs k) ↔ outK W T bs k := fun k => by
    rw [List.mem_filter, List.mem_range]
    constructor
    · rintro ⟨a, b⟩; exact (outK_in hf a).2 (by simpa using b)
    · intro h
      have hk := ((outK_iff hf).1 h).1
      exact ⟨hk, by rw [(outK_in hf hk).1 h]; rfl⟩
  have nO : ((List.range (outN W T)).filter (fun k => !inK W T bs k)).Nodup := List.Pairwise.filter _ List.nodup_range
  generalize (List.range (outN W T)).filter (fun k => !inK W T bs k) = O at hc hO nO
  constructor
  · intro h k hk
    refine Classical.byContradiction fun hno => ?_
    have := nodup_sub (k :: L) O (List.nodup_cons.2 ⟨fun hm => hno ((h1 k).1 hm), hn⟩) (fun a ha => by
      rcases List.mem_cons.1 ha with rfl | ha
      · exact (hO _).2 hk
      · exact (hO a).2 (((h1 a).1 ha).mem hz))
    rw [List.length_cons] at this
    omega
  · intro h
    have a := nodup_sub L O hn (fun a ha => (hO a).2 (((h1 a).1 ha).mem hz))
    have b := nodup_sub O L nO (fun a ha => (h1 a).2 (h a ((hO a).1 ha)))
    omega

/-! ### A search from place to place -/
def mayF (W T : Int) (bs : List Bool) (M : List Bool) (x y : Int) : Bool := decide (inF (W + 2) (T + 2) x y) && (!M.getD (y * (W + 2) + x).toNat true && !atQ W T bs (x - 1) (y - 1))
def floF (W T : Int) (bs : List Bool) : Nat → Int → Int → List Bool → List Bool
  | 0, _, _, M => M
  | f + 1, x, y, M => if mayF W T bs M x y = true then floF W T bs f x (y - 1) (floF W T bs f x (y + 1) (floF W T bs f (x - 1) y (floF W T bs f (x + 1) y (M.set (y * (W + 2) + x).toNat true)))) else M
def unF (M : List Bool) : Nat := (M.filter fun b => !b).length
theorem unF_set : ∀ (M : List Bool) (k : Nat), M.getD k true = false → unF (M.set k true) + 1 = unF M
  | [], k, h => by simp at h
  | b :: M, 0, h => by
    have : b = false := by simpa using h
    subst this
    simp [unF]
  | b :: M, k + 1, h => by
    have := unF_set M k (by simpa using h)
    unfold unF at *
    cases b <;> simp <;> omega
theorem unF_le {M M' : List Bool} (hl : M'.length = M.length) (h : ∀ k, M.getD k true = true → M'.getD k true = true) : unF M' ≤ unF M := by
  induction M generalizing M' with
  | nil => cases M' with
    | nil => exact Nat.le_refl _
    | cons _ _ => simp at hl
  | cons b M ih =>
    cases M' with
    | nil => simp at hl
    | cons b' M' =>
      have h1 := ih (M' := M') (by simpa using hl) (fun k hk => by simpa using h (k + 1) (by simpa using hk))
      have h2 := h 0
      unfold unF at *
      cases b <;> cases b' <;> simp at h1 h2 ⊢ <;> omega
structure FloR (W T : Int) (bs : List Bool) (x y : Int) (M M' : List Bool) : Prop where
  len : M'.length = M.length
  old : ∀ k, M.getD k true = true → M'.getD k true = true
  new : ∀ k, M'.getD k true = true → M.getD k true = false → ∃ k0 : Nat, inF (W + 2) (T + 2) x y ∧ y * (W + 2) + x = k0 ∧ outK W T bs k0 ∧ ConnO W T bs k0 k
  clo : ∀ k, M'.getD k true = true → M.getD k true = false → ∀ j, adjW (W + 2) (T + 2) (outN W T) k j → outK W T bs j → M'.getD j true = true
  at_ : ∀ k0 : Nat, inF (W + 2) (T + 2) x y → y * (W + 2) + x = k0 → outK W T bs k0 → M'.getD k0 true = true
theorem getD_setT {l : List Bool} {k j : Nat} (hk : k < l.length) : (l.set k true).getD j true = if j = k then true else l.getD j true := by
  rw [List.getD_eq_getElem?_getD, List.getElem?_set]
  by_cases h : k = j
  · subst h; rw [if_pos rfl, if_pos hk, if_pos rfl]; rfl
  · rw [if_neg h, if_neg (fun e => h e.symm), List.getD_eq_getElem?_getD]
theorem mayF_iff {W T : Int} {bs M : List Bool} {x y : Int} : mayF W T bs M x y = true ↔ inF (W + 2) (T + 2) x y ∧ M.getD (y * (W + 2) + x).toNat true = false ∧ atQ W T bs (x - 1) (y - 1) = false := by
  unfold mayF
  rw [Bool.and_eq_true, Bool.and_eq_true, decide_eq_true_eq, Bool.not_eq_true', Bool.not_eq_true']
theorem flo_ok {W T : Int} {bs : List Bool} (hf : FldG W T bs.length) : ∀ (f : Nat) (x y : Int) (M : List Bool), unF M < f → M.length = outN W T → FloR W T bs x y M (floF W T bs f x y M) := by
  have hf2 := out_fld hf
  intro f
  induction f with
  | zero => intro x y M h; omega
  | succ f ih =>
    intro x y M hu hl
    unfold floF
    by_cases hm : mayF W T bs M x y = true
    · rw [if_pos hm]
      obtain ⟨hin, hM, hat⟩ := mayF_iff.1 hm
      obtain ⟨k0, e0, hk0, x0, y0⟩ := hf2.at_ hin.1 hin.2.1 hin.2.2.1 hin.2.2.2
      rw [e0, Int.toNat_natCast] at hM ⊢
      have hO : outK W T bs k0 := (outK_iff hf).2 ⟨hk0, by rw [x0, y0]; exact hat⟩
      have hu1 := unF_set M k0 hM
      have g1 : ∀ j, (M.set k0 true).getD j true = if j = k0 then true else M.getD j true := fun j => getD_setT (by omega)
      have l1 : (M.set k0 true).length = outN W T := by rw [List.length_set]; exact hl
      generalize M.set k0 true = M1 at *
      have r2 := ih (x + 1) y M1 (by omega) l1
      generalize floF W T bs f (x + 1) y M1 = M2 at *
      have u2 := unF_le r2.len r2.old
      have r3 := ih (x - 1) y M2 (by omega) (by rw [r2.len, l1])
      generalize floF W T bs f (x - 1) y M2 = M3 at *
      have u3 := unF_le r3.len r3.old
      have r4 := ih x (y + 1) M3 (by omega) (by rw [r3.len, r2.len, l1])
      generalize floF W T bs f x (y + 1) M3 = M4 at *
      have u4 := unF_le r4.len r4.old
      have r5 := ih x (y - 1) M4 (by omega) (by rw [r4.len, r3.len, r2.len, l1])
      generalize floF W T bs f x (y - 1) M4 = M5 at *
      have o12 : ∀ k, M1.getD k true = true → M5.getD k true = true := fun k h => r5.old k (r4.old k (r3.old k (r2.old k h)))
      have cases5 : ∀ k, M5.getD k true = true → M1.getD k true = true ∨ (M2.getD k true = true ∧ M1.getD k true = false) ∨ (M3.getD k true = true ∧ M2.getD k true = false) ∨ (M4.getD k true = true ∧ M3.getD k true = false) ∨ (M5.getD k true = true ∧ M4.getD k true = false) := fun k h => by
        cases h1 : M1.getD k true with
        | true => exact .inl rfl
        | false =>
          cases h2 : M2.getD k true with
          | true => exact .inr (.inl ⟨rfl, rfl⟩)
          | false =>
            cases h3 : M3.getD k true with
            | true => exact .inr (.inr (.inl ⟨rfl, rfl⟩))
            | false =>
              cases h4 : M4.getD k true with
              | true => exact .inr (.inr (.inr (.inl ⟨rfl, rfl⟩)))
              | false => exact .inr (.inr (.inr (.inr ⟨h, rfl⟩)))
      have conn1 : ∀ {d dx dy : Int} {x' y' : Int}, IsDir d dx dy → x' = x + dx → y' = y + dy → ∀ k, (∃ k1 : Nat, inF (W + 2) (T + 2) x' y' ∧ y' * (W + 2) + x' = k1 ∧ outK W T bs k1 ∧ ConnO W T bs k1 k) → ConnO W T bs k0 k := fun {d dx dy x' y'} hd ex ey k ⟨k1, hin1, e1, o1, c1⟩ => by
        obtain ⟨k1', e1', hk1, p1, p2⟩ := hf2.at_ hin1.1 hin1.2.1 hin1.2.2.1 hin1.2.2.2
        have : k1' = k1 := by omega
        subst this
        exact .step o1 (adjW_of hf2 hk0 hk1 hd (by omega) (by omega)).2 c1
      refine ⟨by rw [r5.len, r4.len, r3.len, r2.len, l1, hl], fun k h => o12 k (by
        rw [g1]
        split
        · rfl
        · exact h), fun k h hn => ?_, fun k h hn j hj hjo => ?_, fun k h1 h2 h3 => ?_⟩
      · refine ⟨k0, hin, e0, hO, ?_⟩
        rcases cases5 k h with h1 | ⟨h1, h2⟩ | ⟨h1, h2⟩ | ⟨h1, h2⟩ | ⟨h1, h2⟩
        · rw [g1] at h1
          split at h1
          · rename_i e; subst e; exact .refl _
          · rw [hn] at h1; cases h1
        · exact conn1 (.inl ⟨rfl, rfl, rfl⟩) rfl (by omega) k (r2.new k h1 h2)
        · exact conn1 (.inr (.inr (.inl ⟨rfl, rfl, rfl⟩))) (by omega) (by omega) k (r3.new k h1 h2)
        · exact conn1 (.inr (.inl ⟨rfl, rfl, rfl⟩)) (by omega) rfl k (r4.new k h1 h2)
        · exact conn1 (.inr (.inr (.inr ⟨rfl, rfl, rfl⟩))) (by omega) (by omega) k (r5.new k h1 h2)
      · rcases cases5 k h with h1 | ⟨h1, h2⟩ | ⟨h1, h2⟩ | ⟨h1, h2⟩ | ⟨h1, h2⟩
        · rw [g1] at h1
          split at h1
          · rename_i e
            subst e
            obtain ⟨d, dx, dy, hd, -, e1, e2⟩ := adjW_xy hf2 hj
            obtain ⟨q1, q2, q3, q4, q5⟩ := hf2.xy hj.2.1
            rw [e1, e2, x0, y0] at q5
            have hin' : inF (W + 2) (T + 2) (x + dx) (y + dy) := ⟨by omega, by omega, by omega, by omega⟩
            rcases hd with ⟨rfl, rfl, rfl⟩ | ⟨rfl, rfl, rfl⟩ | ⟨rfl, rfl, rfl⟩ | ⟨rfl, rfl, rfl⟩
            · rw [Int.add_zero] at hin' q5
              exact r5.old _ (r4.old _ (r3.old _ (r2.at_ j hin' q5 hjo)))
            · rw [Int.add_zero] at hin' q5
              exact r5.old _ (r4.at_ j hin' q5 hjo)
            · rw [Int.add_zero] at hin' q5
              exact r5.old _ (r4.old _ (r3.at_ j hin' q5 hjo))
            · rw [Int.add_zero] at hin' q5
              exact r5.at_ j hin' q5 hjo
          · rw [hn] at h1; cases h1
        · exact r5.old _ (r4.old _ (r3.old _ (r2.clo k h1 h2 j hj hjo)))
        · exact r5.old _ (r4.old _ (r3.clo k h1 h2 j hj hjo))
        · exact r5.old _ (r4.clo k h1 h2 j hj hjo)
        · exact r5.clo k h1 h2 j hj hjo
      · obtain rfl : k = k0 := by omega
        exact o12 k (by rw [g1, if_pos rfl])
    · rw [if_neg hm]
      refine ⟨rfl, fun _ h => h, fun k h hn => (by rw [h] at hn; cases hn), fun k h hn => (by rw [h] at hn; cases hn), fun k h1 h2 h3 => ?_⟩
      refine Classical.byContradiction fun hno => hm (mayF_iff.2 ⟨h1, ?_, ?_⟩)
      · rw [h2, Int.toNat_natCast]
        exact Bool.eq_false_iff.2 hno
      · have := ((outK_iff hf).1 h3)
        obtain ⟨k', e', hk', p1, p2⟩ := hf2.at_ h1.1 h1.2.1 h1.2.2.1 h1.2.2.2
        obtain rfl : k' = k := by omega
        rw [p1, p2] at this
        exact this.2
theorem flo_len {W T : Int} {bs : List Bool} : ∀ (f : Nat) (x y : Int) (M : List Bool), (floF W T bs f x y M).length = M.length
  | 0, _, _, _ => rfl
  | f + 1, x, y, M => by
    unfold floF
    split
    · rw [flo_len, flo_len, flo_len, flo_len, List.length_set]
    · rfl
def floV (W T : Int) (bs : List Bool) : List Bool := floF W T bs (outN W T + 1) 0 0 (List.replicate (outN W T) false)
theorem unF_rep (n : Nat) : unF (List.replicate n false) = n := by unfold unF; simp
/-- the search finds as many places as there are outside exactly if all hang together -/
theorem flo_many {W T : Int} {bs : List Bool} (hf : FldG W T bs.length) : (cnt (floV W T bs) = outN W T - cnt bs) ↔ outA W T bs := by
  have hf2 := out_fld hf
  have hN : 0 < outN W T := by
    have := hf2.len
    have h5 : 0 < (W + 2) * (T + 2) := Int.mul_pos (by have := hf.w1; omega) (by have := hf.t1; omega)
    omega
  have r := flo_ok hf (outN W T + 1) 0 0 (List.replicate (outN W T) false) (by rw [unF_rep]; omega) (by simp)
  change FloR W T bs 0 0 _ (floV W T bs) at r
  have hl : (floV W T bs).length = outN W T := by rw [r.len]; simp
  have hz : outK W T bs 0 := (outK_iff hf).2 ⟨hN, atQ_f (by simp)⟩
  have h0 : ∀ k, k < outN W T → (List.replicate (outN W T) false).getD k true = false := fun k hk => by
    rw [List.getD_eq_getElem?_getD, List.getElem?_replicate, if_pos hk]; rfl
  have hin0 : inF (W + 2) (T + 2) 0 0 := ⟨by omega, by have := hf2.w1; omega, by omega, by have := hf2.t1; omega⟩
  have e := cnt_range (floV W T bs) (floV W T bs).length (Nat.le_refl _)
  rw [List.take_length] at e
  rw [← e]
  refine out_many hf (List.Pairwise.filter _ List.nodup_range) fun k => ?_
  rw [List.mem_filter, List.mem_range, hl]
  have gD : ∀ k, k < outN W T → (floV W T bs).getD k true = (floV W T bs).getD k false := fun k hk => by
    rw [List.getD_eq_getElem?_getD, List.getD_eq_getElem?_getD, List.getElem?_eq_getElem (by omega)]; rfl
  constructor
  · rintro ⟨hk, hb⟩
    obtain ⟨k0, -, e1, -, hc⟩ := r.new k (by rw [gD k hk]; exact hb) (h0 k hk)
    obtain rfl : k0 = 0 := by omega
    exact hc
  · intro hc
    have key : ∀ a b, ConnO W T bs a b → a < outN W T → (floV W T bs).getD a true = true → (floV W T bs).getD b true = true := fun a b hc => by
      induction hc with
      | refl _ => intro _ h; exact h
      | step hb hab _ ih =>
        intro ha h
        exact ih hab.2.1 (r.clo _ h (h0 _ ha) _ hab hb)
    have hk := ((outK_iff hf).1 (hc.mem hz)).1
    refine ⟨hk, ?_⟩
    rw [← gD k hk]
    exact key 0 k hc hN (r.at_ 0 hin0 (by simp) hz)

/-! ### A queue of places -/
/-- the queue: all that is met, each once; those before i are done, and so many directions of that one -/
structure BfsI (W T : Int) (bs : List Bool) (Q : List Nat) (S : List Bool) (i d : Nat) : Prop where
  nd : Q.Nodup
  len : S.length = outN W T
  met : ∀ k, k < outN W T → (S.getD k false = true ↔ k ∈ Q)
  con : ∀ k ∈ Q, k < outN W T ∧ ConnO W T bs 0 k
  zero : 0 ∈ Q
  done : ∀ j (h : j < Q.length), j < i → ∀ a, adjW (W + 2) (T + 2) (outN W T) Q[j] a → outK W T bs a → a ∈ Q
  part : ∀ (h : i < Q.length) (w : Nat), 1 ≤ w → w ≤ d → ∀ a : Nat, stepZ (W + 2) (T + 2) Q[i] w = a → a < outN W T → outK W T bs a → a ∈ Q
theorem bfs_start {W T : Int} {bs : List Bool} (hf : FldG W T bs.length) : BfsI W T bs [0] ((List.replicate (outN W T) false).set 0 true) 0 0 := by
  have hf2 := out_fld hf
  have hN : 0 < outN W T := by
    have := hf2.len
    have h5 : 0 < (W + 2) * (T + 2) := Int.mul_pos (by have := hf.w1; omega) (by have := hf.t1; omega)
    omega
  refine ⟨by simp, by simp, fun k hk => ?_, fun k hk => ?_, by simp, fun j h h2 => by omega, fun h w h1 h2 => by omega⟩
  · rw [List.mem_singleton, List.getD_eq_getElem?_getD, List.getElem?_set]
    by_cases h : 0 = k
    · subst h; simp [hN]
    · rw [if_neg h, List.getElem?_replicate, if_pos hk]
      simp; omega
  · rw [List.mem_singleton] at hk
    subst hk
    exact ⟨hN, .refl _⟩
theorem bfs_next {W T : Int} {bs : List Bool} (hf : FldG W T bs.length) {Q : List Nat} {S : List Bool} {i : Nat} (h : BfsI W T bs Q S i 4) : BfsI W T bs Q S (i + 1) 0 := by
  have hf2 := out_fld hf
  refine ⟨h.nd, h.len, h.met, h.con, h.zero, fun j hj hji a ha ho => ?_, fun _ w h1 h2 => by omega⟩
  rcases Nat.lt_or_ge j i with h1 | h1
  · exact h.done j hj h1 a ha ho
  · obtain rfl : j = i := by omega
    obtain ⟨_, hal, d, hd, e⟩ := ha
    obtain ⟨w, rfl⟩ := Int.eq_ofNat_of_zero_le (show 0 ≤ d by omega)
    exact h.part hj w (by omega) (by omega) a e hal ho
/-- no further place -/
theorem bfs_skip {W T : Int} {bs : List Bool} {Q : List Nat} {S : List Bool} {i d : Nat} (h : BfsI W T bs Q S i d) (hn : ∀ (hi : i < Q.length) (a : Nat), stepZ (W + 2) (T + 2) Q[i] ((d : Int) + 1) = a → a < outN W T → outK W T bs a → S.getD a false = true) : BfsI W T bs Q S i (d + 1) := by
  refine ⟨h.nd, h.len, h.met, h.con, h.zero, h.done, fun hi w h1 h2 a e ha ho => ?_⟩
  rcases Nat.lt_or_ge d w with h3 | h3
  · obtain rfl : w = d + 1 := by omega
    exact (h.met a ha).1 (hn hi a (by rw [← e]; congr 1) ha ho)
  · exact h.part hi w h1 h3 a e ha ho
/-- a further place -/
theorem bfs_push {W T : Int} {bs : List Bool} {Q : List Nat} {S : List Bool} {i d : Nat} (h : BfsI W T bs Q S i d) (hd : d < 4) (hi : i < Q.length) {a : Nat} (e : stepZ (W + 2) (T + 2) Q[i] ((d : Int) + 1) = a) (ha : a < outN W T) (ho : outK W T bs a) (hs : S.getD a false = false) : BfsI W T bs (Q ++ [a]) (S.set a true) i (d + 1) := by
  have hna : a ∉ Q := fun hm => by have := (h.met a ha).2 hm; rw [hs] at this; cases this
  have hq : (Q ++ [a])[i]'(by simp; omega) = Q[i] := List.getElem_append_left hi
  have hqi := h.con Q[i] (List.getElem_mem hi)
  have hadj : adjW (W + 2) (T + 2) (outN W T) Q[i] a := ⟨hqi.1, ha, (d : Int) + 1, by omega, e⟩
  refine ⟨?_, by rw [List.length_set]; exact h.len, fun k hk => ?_, fun k hk => ?_, List.mem_append_left _ h.zero, fun j hj hji b hb hbo => ?_, fun hi' w h1 h2 b eb hb hbo => ?_⟩
  · rw [List.nodup_append]
    exact ⟨h.nd, by simp, fun x hx y hy exy => by rw [List.mem_singleton] at hy; subst hy; rw [exy] at hx; exact hna hx⟩
  · rw [List.mem_append, List.mem_singleton, List.getD_eq_getElem?_getD, List.getElem?_set]
    by_cases hak : a = k
    · subst hak
      rw [if_pos rfl, if_pos (by rw [h.len]; exact ha)]
      simp
    · rw [if_neg hak, ← List.getD_eq_getElem?_getD, h.met k hk]
      constructor
      · exact fun h => .inl h
      · rintro (h | h)
        · exact h
        · exact absurd h.symm hak
  · rcases List.mem_append.1 hk with hk | hk
    · exact h.con k hk
    · rw [List.mem_singleton] at hk
      subst hk
      exact ⟨ha, hqi.2.trans (.one ho hadj)⟩
  · have hjq : j < Q.length := by omega
    rw [List.getElem_append_left hjq] at hb
    exact List.mem_append_left _ (h.done j hjq hji b hb hbo)
  · rw [hq] at eb
    rcases Nat.lt_or_ge d w with h3 | h3
    · obtain rfl : w = d + 1 := by omega
      have : (((d + 1 : Nat) : Int)) = (d : Int) + 1 := by omega
      rw [this, e] at eb
      obtain rfl : a = b := by omega
      simp
    · exact List.mem_append_left _ (h.part hi w h1 h3 b eb hb hbo)
theorem bfs_len {W T : Int} {bs : List Bool} {Q : List Nat} {S : List Bool} {i d : Nat} (h : BfsI W T bs Q S i d) : Q.length ≤ outN W T := by
  have := nodup_sub Q (List.range (outN W T)) h.nd (fun a ha => List.mem_range.2 (h.con a ha).1)
  simpa using this
theorem bfs_many {W T : Int} {bs : List Bool} (hf : FldG W T bs.length) {Q : List Nat} {S : List Bool} (h : BfsI W T bs Q S Q.length 0) : ((Q.length : Int) = outN W T - cnt bs) ↔ outA W T bs := by
  have hz : outK W T bs 0 := (outK_iff hf).2 ⟨(h.con 0 h.zero).1, atQ_f (by simp)⟩
  refine out_many hf h.nd fun k => ⟨fun hk => (h.con k hk).2, fun hc => ?_⟩
  have key : ∀ a b, ConnO W T bs a b → a ∈ Q → b ∈ Q := fun a b hc => by
    induction hc with
    | refl _ => intro h; exact h
    | step hb hab _ ih =>
      intro ha
      refine ih ?_
      obtain ⟨j, hj, e⟩ := List.getElem_of_mem ha
      exact h.done j hj hj _ (by rw [e]; exact hab) hb
  exact key 0 k hc h.zero
end Go.Proofs.YtafmpgikdhlknaaGreat

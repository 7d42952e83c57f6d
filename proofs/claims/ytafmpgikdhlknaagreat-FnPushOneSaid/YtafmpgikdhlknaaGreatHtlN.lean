
/- Lists of heights, plainly: of tilings, the lesser and the greater ones; tilings of heights. -/
import Derived.Test.YtafmpgikdhlknaaGreatShpN
namespace Go.Proofs.YtafmpgikdhlknaaGreat
open Go.RowKit

def ncN (W T : Int) : Nat := ((W + 1) * (T + 1)).toNat
theorem cor_fld {W T : Int} {n : Nat} (hf : FldG W T n) : FldG (W + 1) (T + 1) (ncN W T) := by
  have h1 := hf.w1
  have h2 := hf.t1
  refine ⟨by omega, by omega, ?_⟩
  unfold ncN
  rw [Int.toNat_of_nonneg (Int.mul_nonneg (by omega) (by omega))]
abbrev hL (W T : Int) (hs : List Int) : Int → Int → Int := dirL (W + 1) (T + 1) hs
def corK (W T : Int) (bs : List Bool) (v : Nat) : Prop := Cor (atQ W T bs) ((v : Int) % (W + 1)) ((v : Int) / (W + 1))
theorem cor_in {W T : Int} {bs : List Bool} {x y : Int} (h : Cor (atQ W T bs) x y) : inF (W + 1) (T + 1) x y := by
  unfold inF
  rcases h with h | h | h | h <;> (obtain ⟨a1, a2, a3, a4⟩ := at_in h; omega)
theorem hL_k {W T : Int} {n : Nat} (hf : FldG W T n) {hs : List Int} {v : Nat} (hv : v < ncN W T) : hL W T hs ((v : Int) % (W + 1)) ((v : Int) / (W + 1)) = hs.getD v 0 := dir_k (cor_fld hf) hv
theorem cor_ex {W T : Int} {n : Nat} (hf : FldG W T n) {bs : List Bool} {x y : Int} (h : Cor (atQ W T bs) x y) : ∃ v : Nat, v < ncN W T ∧ (v : Int) % (W + 1) = x ∧ (v : Int) / (W + 1) = y ∧ corK W T bs v := by
  obtain ⟨a1, a2, a3, a4⟩ := cor_in h
  obtain ⟨v, -, hv, e1, e2⟩ := (cor_fld hf).at_ a1 a2 a3 a4
  exact ⟨v, hv, e1, e2, by unfold corK; rw [e1, e2]; exact h⟩
/-- heights of a region, as a list -/
structure GoodH (W T : Int) (bs : List Bool) (hs : List Int) : Prop where
  len : hs.length = ncN W T
  none : ∀ v, v < ncN W T → ¬ corK W T bs v → hs.getD v 0 = 99
  ok : HgtOk (atQ W T bs) (hL W T hs)
  zero : hL W T hs (x0K W bs) (y0K W bs) = 0
theorem GoodH.ext {W T : Int} {bs : List Bool} (hf : FldG W T bs.length) {a b : List Int} (h : GoodH W T bs a) (k : GoodH W T bs b) (he : ∀ x y, Cor (atQ W T bs) x y → hL W T a x y = hL W T b x y) : a = b := by
  refine List.ext_getElem (by rw [h.len, k.len]) fun v h1 h2 => ?_
  have hv : v < ncN W T := by rw [← h.len]; exact h1
  rw [← getD_in a 0 h1, ← getD_in b 0 h2]
  by_cases hc : corK W T bs v
  · rw [← hL_k hf hv, ← hL_k hf hv]; exact he _ _ hc
  · rw [h.none v hv hc, k.none v hv hc]
theorem GoodH.bd {W T : Int} {bs : List Bool} (hs : simpB W T bs = true) {a : List Int} (h : GoodH W T bs a) {v : Nat} (hv : v < ncN W T) (hc : corK W T bs v) : -60 ≤ a.getD v 0 ∧ a.getD v 0 ≤ 60 := by
  obtain ⟨h1, h2, -⟩ := simp_iff.1 hs
  rw [← hL_k (valid_fld h1) hv]
  exact hgt_bd h1 h2 h.ok h.zero _ _ hc
theorem GoodH.known {W T : Int} {bs : List Bool} (hs : simpB W T bs = true) {a : List Int} (h : GoodH W T bs a) {v : Nat} (hv : v < ncN W T) : a.getD v 0 ≠ 99 ↔ corK W T bs v := by
  constructor
  · intro h1
    exact Classical.byContradiction fun h2 => h1 (h.none v hv h2)
  · intro h1
    have := h.bd hs hv h1
    omega
open Classical in
noncomputable def mkH (W T : Int) (bs : List Bool) (h : Int → Int → Int) : List Int := (List.range (ncN W T)).map fun v => if corK W T bs v then h ((v : Int) % (W + 1)) ((v : Int) / (W + 1)) else 99
theorem mkH_len (W T : Int) (bs : List Bool) (h : Int → Int → Int) : (mkH W T bs h).length = ncN W T := by unfold mkH; simp
open Classical in
theorem mkH_k {W T : Int} {bs : List Bool} {h : Int → Int → Int} {v : Nat} (hv : v < ncN W T) : (corK W T bs v → (mkH W T bs h).getD v 0 = h ((v : Int) % (W + 1)) ((v : Int) / (W + 1))) ∧ (¬ corK W T bs v → (mkH W T bs h).getD v 0 = 99) := by
  have e : v < (mkH W T bs h).length := by rw [mkH_len]; exact hv
  rw [getD_in _ _ e]
  have e2 : (mkH W T bs h)[v] = if corK W T bs v then h ((v : Int) % (W + 1)) ((v : Int) / (W + 1)) else 99 := by
    simp only [mkH, List.getElem_map, List.getElem_range]
  rw [e2]
  exact ⟨fun hc => if_pos hc, fun hc => if_neg hc⟩
theorem mkH_cor {W T : Int} {bs : List Bool} (hf : FldG W T bs.length) {h : Int → Int → Int} {x y : Int} (hc : Cor (atQ W T bs) x y) : hL W T (mkH W T bs h) x y = h x y := by
  obtain ⟨v, hv, rfl, rfl, hk⟩ := cor_ex hf hc
  rw [hL_k hf hv, (mkH_k hv).1 hk]
theorem hgtOk_congr {R : Int → Int → Bool} {h h' : Int → Int → Int} (he : ∀ x y, Cor R x y → h' x y = h x y) (ho : HgtOk R h) : HgtOk R h' := by
  intro x y hr
  obtain ⟨c1, c2, c3, c4⟩ := cor_cell hr
  rw [he _ _ c1, he _ _ c2, he _ _ c3, he _ _ c4]
  exact ho x y hr
theorem isHgt_congr {R : Int → Int → Bool} {D h h' : Int → Int → Int} (he : ∀ x y, Cor R x y → h' x y = h x y) (ho : IsHgt R D h) : IsHgt R D h' := by
  intro x y hr
  obtain ⟨c1, c2, c3, c4⟩ := cor_cell hr
  rw [he _ _ c1, he _ _ c2, he _ _ c3, he _ _ c4]
  exact ho x y hr
theorem cor_0 {W T : Int} {bs : List Bool} (hs : simpB W T bs = true) : Cor (atQ W T bs) (x0K W bs) (y0K W bs) := by
  obtain ⟨h1, h2, -⟩ := simp_iff.1 hs
  exact .inl (hangs_of (valid_fld h1) h2).1
theorem mkH_good {W T : Int} {bs : List Bool} (hs : simpB W T bs = true) {h : Int → Int → Int} (ho : HgtOk (atQ W T bs) h) (h0 : h (x0K W bs) (y0K W bs) = 0) : GoodH W T bs (mkH W T bs h) := by
  have hf := valid_fld (simp_iff.1 hs).1
  exact ⟨mkH_len _ _ _ _, fun v hv hc => (mkH_k hv).2 hc, hgtOk_congr (fun x y hc => mkH_cor hf hc) ho, by rw [mkH_cor hf (cor_0 hs)]; exact h0⟩
open Classical in
/-- the heights of a tiling -/
noncomputable def hgtV (W T : Int) (bs : List Bool) (L : List Int) : List Int := if h : ∃ hs, GoodH W T bs hs ∧ IsHgt (atQ W T bs) (dirL W T L) (hL W T hs) then Classical.choose h else []
theorem hgtV_uni {W T : Int} {bs : List Bool} (hs : simpB W T bs = true) {L a : List Int} (h : GoodH W T bs a) (hh : IsHgt (atQ W T bs) (dirL W T L) (hL W T a)) : hgtV W T bs L = a := by
  have hx : ∃ hs, GoodH W T bs hs ∧ IsHgt (atQ W T bs) (dirL W T L) (hL W T hs) := ⟨a, h, hh⟩
  have e : hgtV W T bs L = Classical.choose hx := by unfold hgtV; rw [dif_pos hx]
  obtain ⟨k1, k2⟩ := Classical.choose_spec hx
  rw [e]
  obtain ⟨h1, h2, -⟩ := simp_iff.1 hs
  refine k1.ext (valid_fld h1) h fun x y hc => ?_
  have := hgt_uni hh k2 (hangs_of (valid_fld h1) h2) (d := 0) (by rw [k1.zero, h.zero]; rfl) x y hc
  omega
theorem hgtV_spec {W T : Int} {bs : List Bool} (hs : simpB W T bs = true) {L : List Int} (ht : IsTil (atQ W T bs) (dirL W T L)) : GoodH W T bs (hgtV W T bs L) ∧ IsHgt (atQ W T bs) (dirL W T L) (hL W T (hgtV W T bs L)) := by
  obtain ⟨h1, h2, h3⟩ := simp_iff.1 hs
  have hf := valid_fld h1
  obtain ⟨h, hh⟩ := hgt_ex hf h3 ht
  have hh' : IsHgt (atQ W T bs) (dirL W T L) (fun x y => h x y - h (x0K W bs) (y0K W bs)) := fun x y hr => by
    obtain ⟨a, b, c, d⟩ := hh x y hr
    simp only
    exact ⟨by omega, by omega, by omega, by omega⟩
  have hg : GoodH W T bs (mkH W T bs (fun x y => h x y - h (x0K W bs) (y0K W bs))) := mkH_good hs (hh'.ok ht) (by simp)
  have hi : IsHgt (atQ W T bs) (dirL W T L) (hL W T (mkH W T bs (fun x y => h x y - h (x0K W bs) (y0K W bs)))) := isHgt_congr (fun x y hc => mkH_cor hf hc) hh'
  rw [hgtV_uni hs hg hi]
  exact ⟨hg, hi⟩
/-- the tiling of heights -/
def tilH (W T : Int) (bs : List Bool) (hs : List Int) : List Int := (List.range bs.length).map fun k : Nat => dirH (atQ W T bs) (hL W T hs) ((k : Int) % W) ((k : Int) / W)
theorem tilH_len (W T : Int) (bs : List Bool) (hs : List Int) : (tilH W T bs hs).length = bs.length := by unfold tilH; simp
theorem tilH_k {W T : Int} {bs : List Bool} {hs : List Int} {k : Nat} (hk : k < bs.length) : (tilH W T bs hs).getD k 0 = dirH (atQ W T bs) (hL W T hs) ((k : Int) % W) ((k : Int) / W) := by
  rw [getD_in _ _ (by rw [tilH_len]; exact hk)]
  simp only [tilH, List.getElem_map, List.getElem_range]
theorem tilH_dir {W T : Int} {bs : List Bool} (hf : FldG W T bs.length) (hs : List Int) (x y : Int) : dirL W T (tilH W T bs hs) x y = dirH (atQ W T bs) (hL W T hs) x y := by
  by_cases hin : inF W T x y
  · obtain ⟨k, -, hk, rfl, rfl⟩ := hf.at_ hin.1 hin.2.1 hin.2.2.1 hin.2.2.2
    rw [dir_k hf hk, tilH_k hk]
  · rw [dir_out hin, dirH_out (atQ_f hin)]
theorem til_congr {R : Int → Int → Bool} {D D' : Int → Int → Int} (he : ∀ x y, D' x y = D x y) (h : IsTil R D) : IsTil R D' := by
  have : D' = D := funext fun x => funext fun y => he x y
  rw [this]; exact h
theorem tilH_til {W T : Int} {bs : List Bool} (hs : simpB W T bs = true) {a : List Int} (h : GoodH W T bs a) : tilingB W T bs (tilH W T bs a) = true := by
  have hv := (simp_iff.1 hs).1
  exact til_tiling hv (tilH_len _ _ _ _) (til_congr (tilH_dir (valid_fld hv) a) (dirH_til h.ok))
theorem hgt_congrD {R : Int → Int → Bool} {D D' h : Int → Int → Int} (he : ∀ x y, D' x y = D x y) (hh : IsHgt R D h) : IsHgt R D' h := by
  have : D' = D := funext fun x => funext fun y => he x y
  rw [this]; exact hh
theorem hgt_tilH {W T : Int} {bs : List Bool} (hs : simpB W T bs = true) {a : List Int} (h : GoodH W T bs a) : hgtV W T bs (tilH W T bs a) = a := by
  have hv := (simp_iff.1 hs).1
  exact hgtV_uni hs h (hgt_congrD (tilH_dir (valid_fld hv) a) (dirH_hgt h.ok))
theorem tilH_hgt {W T : Int} {bs : List Bool} (hs : simpB W T bs = true) {L : List Int} (h : tilingB W T bs L = true) : tilH W T bs (hgtV W T bs L) = L := by
  obtain ⟨hv, hl, ht⟩ := tiling_til h
  have hf := valid_fld hv
  refine dir_ext hf (tilH_len _ _ _ _) hl fun x y _ => ?_
  rw [tilH_dir hf]
  exact dirH_eq ht (hgtV_spec hs ht).2 x y
theorem hgt_inj {W T : Int} {bs : List Bool} (hs : simpB W T bs = true) {L M : List Int} (h : tilingB W T bs L = true) (k : tilingB W T bs M = true) (e : hgtV W T bs L = hgtV W T bs M) : L = M := by
  rw [← tilH_hgt hs h, ← tilH_hgt hs k, e]
theorem hgtV_good {W T : Int} {bs : List Bool} (hs : simpB W T bs = true) {L : List Int} (h : tilingB W T bs L = true) : GoodH W T bs (hgtV W T bs L) := (hgtV_spec hs (tiling_til h).2.2).1

/-! ### The lesser and the greater ones -/
def pickL (f : Int → Int → Int) (a b : List Int) : List Int := List.zipWith f a b
theorem pick_k {f : Int → Int → Int} {a b : List Int} {v : Nat} (ha : v < a.length) (hb : v < b.length) : (pickL f a b).getD v 0 = f (a.getD v 0) (b.getD v 0) := by
  have h : v < (pickL f a b).length := by unfold pickL; rw [List.length_zipWith]; omega
  rw [getD_in _ _ h, getD_in _ _ ha, getD_in _ _ hb]
  simp only [pickL, List.getElem_zipWith]
theorem hL_pick {W T : Int} {n : Nat} (hf : FldG W T n) {f : Int → Int → Int} {a b : List Int} (la : a.length = ncN W T) (lb : b.length = ncN W T) (f0 : f 0 0 = 0) (x y : Int) : hL W T (pickL f a b) x y = f (hL W T a x y) (hL W T b x y) := by
  by_cases hin : inF (W + 1) (T + 1) x y
  · obtain ⟨v, -, hv, rfl, rfl⟩ := (cor_fld hf).at_ hin.1 hin.2.1 hin.2.2.1 hin.2.2.2
    rw [hL_k hf hv, hL_k hf hv, hL_k hf hv, pick_k (by omega) (by omega)]
  · rw [hL, hL, hL, dir_out hin, dir_out hin, dir_out hin, f0]
theorem good_mod {W T : Int} {bs : List Bool} (hs : simpB W T bs = true) {a b : List Int} (h : GoodH W T bs a) (k : GoodH W T bs b) : Mod4 (atQ W T bs) (hL W T a) (hL W T b) := by
  obtain ⟨h1, h2, -⟩ := simp_iff.1 hs
  exact mod_all h.ok k.ok (hangs_of (valid_fld h1) h2) (by rw [h.zero, k.zero]; rfl)
theorem good_pick {W T : Int} {bs : List Bool} (hs : simpB W T bs = true) {f : Int → Int → Int} (fx : ∀ x, f x x = x) {a b : List Int} (h : GoodH W T bs a) (k : GoodH W T bs b) (ho : HgtOk (atQ W T bs) (fun x y => f (hL W T a x y) (hL W T b x y))) : GoodH W T bs (pickL f a b) := by
  have hf := valid_fld (simp_iff.1 hs).1
  refine ⟨by unfold pickL; rw [List.length_zipWith, h.len, k.len, Nat.min_self], fun v hv hc => ?_, hgtOk_congr (fun x y _ => hL_pick hf h.len k.len (fx 0) x y) ho, ?_⟩
  · rw [pick_k (by rw [h.len]; exact hv) (by rw [k.len]; exact hv), h.none v hv hc, k.none v hv hc, fx]
  · rw [hL_pick hf h.len k.len (fx 0), h.zero, k.zero, fx]
theorem good_min {W T : Int} {bs : List Bool} (hs : simpB W T bs = true) {a b : List Int} (h : GoodH W T bs a) (k : GoodH W T bs b) : GoodH W T bs (pickL min a b) :=
  good_pick hs (fun x => by simp) h k (min_ok h.ok k.ok (good_mod hs h k))
theorem good_max {W T : Int} {bs : List Bool} (hs : simpB W T bs = true) {a b : List Int} (h : GoodH W T bs a) (k : GoodH W T bs b) : GoodH W T bs (pickL max a b) :=
  good_pick hs (fun x => by simp) h k (max_ok h.ok k.ok (good_mod hs h k))
/-- nowhere higher -/
def leH (W T : Int) (bs : List Bool) (a b : List Int) : Prop := ∀ x y, Cor (atQ W T bs) x y → hL W T a x y ≤ hL W T b x y
theorem leH.refl (W T : Int) (bs : List Bool) (a : List Int) : leH W T bs a a := fun _ _ _ => Int.le_refl _
theorem leH.trans {W T : Int} {bs : List Bool} {a b c : List Int} (h : leH W T bs a b) (k : leH W T bs b c) : leH W T bs a c := fun x y hc => Int.le_trans (h x y hc) (k x y hc)
theorem leH.anti {W T : Int} {bs : List Bool} (hf : FldG W T bs.length) {a b : List Int} (ha : GoodH W T bs a) (hb : GoodH W T bs b) (h : leH W T bs a b) (k : leH W T bs b a) : a = b := ha.ext hf hb fun x y hc => Int.le_antisymm (h x y hc) (k x y hc)
theorem leH_min {W T : Int} {bs : List Bool} (hf : FldG W T bs.length) {a b : List Int} (ha : GoodH W T bs a) (hb : GoodH W T bs b) : leH W T bs (pickL min a b) a ∧ leH W T bs (pickL min a b) b := by
  refine ⟨fun x y _ => ?_, fun x y _ => ?_⟩ <;> (rw [hL_pick hf ha.len hb.len (by simp)]; omega)
theorem leH_max {W T : Int} {bs : List Bool} (hf : FldG W T bs.length) {a b : List Int} (ha : GoodH W T bs a) (hb : GoodH W T bs b) : leH W T bs a (pickL max a b) ∧ leH W T bs b (pickL max a b) := by
  refine ⟨fun x y _ => ?_, fun x y _ => ?_⟩ <;> (rw [hL_pick hf ha.len hb.len (by simp)]; omega)
/-- heights picked out of those of all -/
noncomputable def foldH (f : Int → Int → Int) (W T : Int) (bs : List Bool) (h : List Int) (ts : List (List Int)) : List Int := ts.foldl (fun h t => pickL f h (hgtV W T bs t)) h
theorem fold_good {W T : Int} {bs : List Bool} (hs : simpB W T bs = true) {f : Int → Int → Int} (hp : ∀ a b, GoodH W T bs a → GoodH W T bs b → GoodH W T bs (pickL f a b)) : ∀ (ts : List (List Int)) (h : List Int), GoodH W T bs h → (∀ t ∈ ts, tilingB W T bs t = true) → GoodH W T bs (foldH f W T bs h ts)
  | [], h, hh, _ => hh
  | t :: ts, h, hh, ht => fold_good hs hp ts (pickL f h (hgtV W T bs t)) (hp _ _ hh (hgtV_good hs (ht t (by simp)))) (fun t' h' => ht t' (by simp [h']))
theorem fold_min_le {W T : Int} {bs : List Bool} (hs : simpB W T bs = true) : ∀ (ts : List (List Int)) (h : List Int), GoodH W T bs h → (∀ t ∈ ts, tilingB W T bs t = true) → leH W T bs (foldH min W T bs h ts) h ∧ ∀ t ∈ ts, leH W T bs (foldH min W T bs h ts) (hgtV W T bs t)
  | [], h, _, _ => ⟨leH.refl _ _ _ _, fun _ h => by simp at h⟩
  | t :: ts, h, hh, ht => by
    have hf := valid_fld (simp_iff.1 hs).1
    have hg := hgtV_good hs (ht t (by simp))
    obtain ⟨a, b⟩ := leH_min hf hh hg
    obtain ⟨c, d⟩ := fold_min_le hs ts (pickL min h (hgtV W T bs t)) (good_min hs hh hg) (fun t' h' => ht t' (by simp [h']))
    refine ⟨c.trans a, fun t' ht' => ?_⟩
    rcases List.mem_cons.1 ht' with rfl | h'
    · exact leH.trans c b
    · exact d t' h'
theorem fold_max_le {W T : Int} {bs : List Bool} (hs : simpB W T bs = true) : ∀ (ts : List (List Int)) (h : List Int), GoodH W T bs h → (∀ t ∈ ts, tilingB W T bs t = true) → leH W T bs h (foldH max W T bs h ts) ∧ ∀ t ∈ ts, leH W T bs (hgtV W T bs t) (foldH max W T bs h ts)
  | [], h, _, _ => ⟨leH.refl _ _ _ _, fun _ h => by simp at h⟩
  | t :: ts, h, hh, ht => by
    have hf := valid_fld (simp_iff.1 hs).1
    have hg := hgtV_good hs (ht t (by simp))
    obtain ⟨a, b⟩ := leH_max hf hh hg
    obtain ⟨c, d⟩ := fold_max_le hs ts (pickL max h (hgtV W T bs t)) (good_max hs hh hg) (fun t' h' => ht t' (by simp [h']))
    refine ⟨leH.trans a c, fun t' ht' => ?_⟩
    rcases List.mem_cons.1 ht' with rfl | h'
    · exact leH.trans b c
    · exact d t' h'
end Go.Proofs.YtafmpgikdhlknaaGreat

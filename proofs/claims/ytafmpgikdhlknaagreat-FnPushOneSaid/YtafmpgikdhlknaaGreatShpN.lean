
/- Simple regions, plainly: what hangs together inside and outside; tilings have heights, that are near. -/
import Derived.Test.YtafmpgikdhlknaaGreatFldN
import Derived.Test.YtafmpgikdhlknaaGreatPartN
import Derived.Test.YtafmpgikdhlknaaGreatBarsN
namespace Go.Proofs.YtafmpgikdhlknaaGreat
open Go.RowKit

/-! ### What hangs together -/
def cellP (bs : List Bool) (k : Nat) : Prop := bs.getD k false = true
def adjW (W T : Int) (n a b : Nat) : Prop := a < n ∧ b < n ∧ ∃ d : Int, (1 ≤ d ∧ d ≤ 4) ∧ stepZ W T a d = b
theorem cellP_lt {bs : List Bool} {k : Nat} (h : cellP bs k) : k < bs.length := by
  refine Classical.byContradiction fun hk => ?_
  unfold cellP at h
  rw [List.getD_eq_getElem?_getD, List.getElem?_eq_none (by omega)] at h
  cases h
theorem adjW_xy {W T : Int} {n a b : Nat} (hf : FldG W T n) (h : adjW W T n a b) : ∃ d dx dy : Int, IsDir d dx dy ∧ stepZ W T a d = b ∧ (b : Int) % W = (a : Int) % W + dx ∧ (b : Int) / W = (a : Int) / W + dy := by
  obtain ⟨ha, hb, d, hd, e⟩ := h
  obtain ⟨dx, dy, h4⟩ := isDir_of hd
  rcases hf.step ha h4 with ⟨s, e', hs, e1, e2, -⟩ | ⟨e', -⟩
  · have : s = b := by omega
    subst this
    exact ⟨d, dx, dy, h4, e, e1, e2⟩
  · omega
theorem adjW_near {W T : Int} {n a b : Nat} (hf : FldG W T n) (h : adjW W T n a b) : nearZ ((a : Int) % W) ((a : Int) / W) ((b : Int) % W) ((b : Int) / W) := by
  obtain ⟨d, dx, dy, hd, -, e1, e2⟩ := adjW_xy hf h
  unfold nearZ
  rw [e1, e2]
  unfold IsDir at hd
  omega
theorem adjW_of {W T : Int} {n a b : Nat} (hf : FldG W T n) (ha : a < n) (hb : b < n) {d dx dy : Int} (hd : IsDir d dx dy) (e1 : (b : Int) % W = (a : Int) % W + dx) (e2 : (b : Int) / W = (a : Int) / W + dy) : stepZ W T a d = b ∧ adjW W T n a b := by
  obtain ⟨b1, b2, b3, b4, -⟩ := hf.xy hb
  rcases hf.step ha hd with ⟨s, e, hs, e3, e4, -⟩ | ⟨-, hn⟩
  · have : s = b := hf.inj hs hb (by omega) (by omega)
    subst this
    exact ⟨e, ha, hs, d, by unfold IsDir at hd; omega, e⟩
  · exact absurd (show 0 ≤ (a : Int) % W + dx ∧ (a : Int) % W + dx ≤ W - 1 ∧ 0 ≤ (a : Int) / W + dy ∧ (a : Int) / W + dy ≤ T - 1 by omega) hn
theorem adjW_symm {W T : Int} {n : Nat} (hf : FldG W T n) (a b : Nat) (h : adjW W T n a b) : adjW W T n b a := by
  obtain ⟨d, dx, dy, hd, -, e1, e2⟩ := adjW_xy hf h
  exact (adjW_of hf h.2.1 h.1 (back_dir hd) (by omega) (by omega)).2
abbrev ConnR (W T : Int) (bs : List Bool) : Nat → Nat → Prop := Conn (cellP bs) (adjW W T bs.length)
def rootP (W T : Int) (bs : List Bool) (c : Nat) : Prop := cellP bs c ∧ ∀ d, ConnR W T bs c d → c ≤ d
open Classical in
noncomputable def prtN (W T : Int) (bs : List Bool) : Nat := (List.range bs.length).countP fun c => decide (rootP W T bs c)
/-- places outside of a region: those of a field that is wider and taller by two -/
def outK (W T : Int) (bs : List Bool) (k : Nat) : Prop := (k : Int) < (W + 2) * (T + 2) ∧ atQ W T bs ((k : Int) % (W + 2) - 1) ((k : Int) / (W + 2) - 1) = false
def outN (W T : Int) : Nat := ((W + 2) * (T + 2)).toNat
abbrev ConnO (W T : Int) (bs : List Bool) : Nat → Nat → Prop := Conn (outK W T bs) (adjW (W + 2) (T + 2) (outN W T))
def outA (W T : Int) (bs : List Bool) : Prop := ∀ k, outK W T bs k → ConnO W T bs 0 k
open Classical in
noncomputable def simpB (W T : Int) (bs : List Bool) : Bool := validB W T bs && decide (prtN W T bs = 1 ∧ outA W T bs)
open Classical in
theorem simp_iff {W T : Int} {bs : List Bool} : simpB W T bs = true ↔ validB W T bs = true ∧ prtN W T bs = 1 ∧ outA W T bs := by
  unfold simpB
  rw [Bool.and_eq_true, decide_eq_true_eq]
theorem least_ex {Q : Nat → Prop} : ∀ (c : Nat), Q c → ∃ d, Q d ∧ ∀ d', Q d' → d ≤ d' := by
  intro c
  induction c using Nat.strongRecOn with
  | _ c ih =>
    intro hc
    by_cases h : ∃ d, d < c ∧ Q d
    · obtain ⟨d, hd, hq⟩ := h
      exact ih d hd hq
    · exact ⟨c, hc, fun d' hd' => Classical.byContradiction fun hn => h ⟨d', by omega, hd'⟩⟩
theorem root_of {W T : Int} {bs : List Bool} {c : Nat} (hc : cellP bs c) : ∃ d, rootP W T bs d ∧ ConnR W T bs c d := by
  obtain ⟨d, hd, hl⟩ := least_ex (Q := ConnR W T bs c) c (.refl c)
  exact ⟨d, ⟨hd.mem hc, fun d' hd' => hl d' (hd.trans hd')⟩, hd⟩
/-- one part: all hangs together with one root -/
theorem one_part {W T : Int} {bs : List Bool} (h : prtN W T bs = 1) : ∃ m, rootP W T bs m ∧ ∀ c, cellP bs c → ConnR W T bs c m := by
  classical
  unfold prtN at h
  rw [List.countP_eq_length_filter] at h
  obtain ⟨m, hm⟩ := List.length_eq_one_iff.1 h
  have hmr : ∀ c, rootP W T bs c → c = m := fun c hc => by
    have : c ∈ (List.range bs.length).filter fun c => decide (rootP W T bs c) := List.mem_filter.2 ⟨List.mem_range.2 (cellP_lt hc.1), decide_eq_true hc⟩
    rw [hm, List.mem_singleton] at this; exact this
  have h1 : m ∈ (List.range bs.length).filter fun c => decide (rootP W T bs c) := by rw [hm]; simp
  rw [List.mem_filter, decide_eq_true_eq] at h1
  refine ⟨m, h1.2, fun c hc => ?_⟩
  obtain ⟨d, hd, hcd⟩ := root_of (W := W) (T := T) hc
  rw [← hmr d hd]; exact hcd
theorem part_one {W T : Int} {bs : List Bool} (hf : FldG W T bs.length) {m : Nat} (hm : cellP bs m) (hall : ∀ c, cellP bs c → ConnR W T bs c m) : prtN W T bs = 1 := by
  classical
  obtain ⟨r, hr, hmr⟩ := root_of (W := W) (T := T) hm
  unfold prtN
  rw [List.countP_eq_length_filter]
  have huni : ∀ c, rootP W T bs c → c = r := fun c hc => by
    have h1 := hc.2 r ((hall c hc.1).trans hmr)
    have h2 := hr.2 c ((hmr.symm (adjW_symm hf) hm).trans ((hall c hc.1).symm (adjW_symm hf) hc.1))
    omega
  have h3 : ∀ c, c ∈ (List.range bs.length).filter (fun c => decide (rootP W T bs c)) ↔ c = r := fun c => by
    rw [List.mem_filter, decide_eq_true_eq]
    constructor
    · intro h; exact huni c h.2
    · rintro rfl; exact ⟨List.mem_range.2 (cellP_lt hr.1), hr⟩
  have h4 : ((List.range bs.length).filter (fun c => decide (rootP W T bs c))).Nodup := List.Pairwise.filter _ List.nodup_range
  generalize (List.range bs.length).filter (fun c => decide (rootP W T bs c)) = l at h3 h4
  cases l with
  | nil => exact absurd ((h3 r).2 rfl) (by simp)
  | cons a l =>
    have ha := (h3 a).1 (by simp)
    cases l with
    | nil => rfl
    | cons b l =>
      have hb := (h3 b).1 (by simp)
      rw [ha, hb] at h4
      simp at h4
/-- the first cell -/
def fstK (bs : List Bool) : Nat := firstB bs
theorem fst_le {bs : List Bool} {k : Nat} (h : cellP bs k) : fstK bs ≤ k := by
  refine Classical.byContradiction fun hn => ?_
  have := firstB_f (F := bs) (show k < firstB bs by unfold fstK at hn; omega) (cellP_lt h)
  unfold cellP at h
  rw [List.getD_eq_getElem?_getD, List.getElem?_eq_getElem (cellP_lt h)] at h
  simp only [Option.getD_some] at h
  rw [h] at this; cases this
theorem fst_cell {bs : List Bool} {k : Nat} (h : cellP bs k) : cellP bs (fstK bs) := by
  have h1 := fst_le h
  have h2 := cellP_lt h
  have h3 : firstB bs < bs.length := by unfold fstK at h1; omega
  have := firstB_t h3
  unfold cellP fstK
  rw [List.getD_eq_getElem?_getD, List.getElem?_eq_getElem h3]; exact this
/-- a simple region hangs together with its first cell -/
theorem fst_all {W T : Int} {bs : List Bool} (hf : FldG W T bs.length) (h : prtN W T bs = 1) : cellP bs (fstK bs) ∧ ∀ c, cellP bs c → ConnR W T bs (fstK bs) c := by
  obtain ⟨m, hm, hall⟩ := one_part h
  have h1 := fst_cell hm.1
  refine ⟨h1, fun c hc => (hall _ h1).trans ((hall c hc).symm (adjW_symm hf) hc)⟩
def x0K (W : Int) (bs : List Bool) : Int := (fstK bs : Int) % W
def y0K (W : Int) (bs : List Bool) : Int := (fstK bs : Int) / W
theorem hangs_of {W T : Int} {bs : List Bool} (hf : FldG W T bs.length) (h : prtN W T bs = 1) : Hangs (atQ W T bs) (x0K W bs) (y0K W bs) := by
  obtain ⟨h1, h2⟩ := fst_all hf h
  have hm := cellP_lt h1
  refine ⟨by unfold x0K y0K; rw [at_k hf hm]; exact h1, fun Q hstep h0 x y hr => ?_⟩
  obtain ⟨k, hk, rfl, rfl, hb⟩ := at_ex hf hr
  have key : ∀ a b, ConnR W T bs a b → cellP bs a → Q ((a : Int) % W) ((a : Int) / W) → Q ((b : Int) % W) ((b : Int) / W) := fun a b hc => by
    induction hc with
    | refl _ => intro _ hq; exact hq
    | step hb hab _ ih =>
      intro ha hq
      refine ih hb (hstep _ _ _ _ ?_ ?_ (adjW_near hf hab) hq)
      · rw [at_k hf (cellP_lt ha)]; exact ha
      · rw [at_k hf (cellP_lt hb)]; exact hb
  exact key _ _ (h2 k hb) h1 h0

/-! ### Heights -/
theorem out_fld {W T : Int} {n : Nat} (hf : FldG W T n) : FldG (W + 2) (T + 2) (outN W T) := by
  have h1 := hf.w1
  have h2 := hf.t1
  refine ⟨by omega, by omega, ?_⟩
  unfold outN
  rw [Int.toNat_of_nonneg (Int.mul_nonneg (by omega) (by omega))]
theorem outK_iff {W T : Int} {n : Nat} (hf : FldG W T n) {bs : List Bool} {k : Nat} : outK W T bs k ↔ k < outN W T ∧ atQ W T bs ((k : Int) % (W + 2) - 1) ((k : Int) / (W + 2) - 1) = false := by
  have := (out_fld hf).len
  unfold outK
  rw [← this]
  constructor
  · rintro ⟨a, b⟩; exact ⟨by omega, b⟩
  · rintro ⟨a, b⟩; exact ⟨by omega, b⟩
/-- tilings of a simple region have heights -/
theorem hgt_ex {W T : Int} {bs : List Bool} (hf : FldG W T bs.length) (ho : outA W T bs) {D : Int → Int → Int} (ht : IsTil (atQ W T bs) D) : ∃ h, IsHgt (atQ W T bs) D h := by
  have hf2 := out_fld hf
  have hw := hf.w1
  have htt := hf.t1
  obtain ⟨p, hp⟩ := pot_ex (P := fun c : Nat × Nat => atQ W T bs ((c.1 : Int) - 1) ((c.2 : Int) - 1) = false) (A := (W + 2).toNat) (B := (T + 2).toNat)
    (fun x y => byH D ((x : Int) - 1) ((y : Int) - 1)) (fun x y => byV D ((x : Int) - 1) ((y : Int) - 1))
    (atQ_f (by simp only; omega))
    (fun c h1 h2 hP => by
      have key : ∀ a b, ConnO W T bs a b → outK W T bs a → Conn2 (fun c : Nat × Nat => atQ W T bs ((c.1 : Int) - 1) ((c.2 : Int) - 1) = false) (((a : Int) % (W + 2)).toNat, ((a : Int) / (W + 2)).toNat) (((b : Int) % (W + 2)).toNat, ((b : Int) / (W + 2)).toNat) := fun a b hc => by
        induction hc with
        | refl _ => intro _; exact .refl _
        | step hb hab _ ih =>
          intro ha
          obtain ⟨a1, -⟩ := (outK_iff hf).1 ha
          obtain ⟨b1, b2⟩ := (outK_iff hf).1 hb
          obtain ⟨p1, p2, p3, p4, -⟩ := hf2.xy a1
          obtain ⟨q1, q2, q3, q4, -⟩ := hf2.xy b1
          refine .step ?_ ?_ (ih hb)
          · simp only [Int.toNat_of_nonneg q1, Int.toNat_of_nonneg q3]; exact b2
          · have := adjW_near hf2 hab
            unfold nearZ at this
            unfold near4
            simp only
            omega
      obtain ⟨k, -, hk, e1, e2⟩ := hf2.at_ (x := (c.1 : Int)) (y := (c.2 : Int)) (by omega) (by omega) (by omega) (by omega)
      have := key 0 k (ho k ((outK_iff hf).2 ⟨hk, by rw [e1, e2]; exact hP⟩)) ((outK_iff hf).2 ⟨by
        have := hf2.len
        have h5 : 0 < (W + 2) * (T + 2) := Int.mul_pos (by omega) (by omega)
        omega, atQ_f (by simp)⟩)
      rw [e1, e2] at this
      simpa using this)
    (fun c h1 h2 hP => by
      have hr : atQ W T bs ((c.1 : Int) - 1) ((c.2 : Int) - 1) = true := by simpa using hP
      have := til_round ht hr
      unfold rnd
      simp only
      rw [show ((c.1 + 1 : Nat) : Int) - 1 = (c.1 : Int) - 1 + 1 by omega, show ((c.2 + 1 : Nat) : Int) - 1 = (c.2 : Int) - 1 + 1 by omega]
      exact this)
  refine ⟨fun x y => p (x + 1).toNat (y + 1).toNat, fun x y hr => ?_⟩
  obtain ⟨a1, a2, a3, a4⟩ := at_in hr
  obtain ⟨u, hu⟩ := Int.eq_ofNat_of_zero_le (show 0 ≤ x + 1 by omega)
  obtain ⟨v, hv⟩ := Int.eq_ofNat_of_zero_le (show 0 ≤ y + 1 by omega)
  have e1 : (u : Int) - 1 = x := by omega
  have e2 : (v : Int) - 1 = y := by omega
  have := hp (u, v) (by simp only; omega) (by simp only; omega) (by simp only [e1, e2]; rw [hr]; simp)
  simp only at this
  rw [show ((u + 1 : Nat) : Int) - 1 = x + 1 by omega, show ((v + 1 : Nat) : Int) - 1 = y + 1 by omega, e1, e2] at this
  simp only
  rw [show (x + 1).toNat = u by omega, show (y + 1).toNat = v by omega, show (x + 1 + 1).toNat = u + 1 by omega, show (y + 1 + 1).toNat = v + 1 by omega]
  obtain ⟨b1, b2, b3, b4⟩ := this
  exact ⟨b1, b2, b3, b4⟩
theorem nodup_sub : ∀ (L p : List Nat), L.Nodup → (∀ a ∈ L, a ∈ p) → L.length ≤ p.length := by
  intro L
  induction L with
  | nil => intro p _ _; simp
  | cons a L ih =>
    intro p hn hs
    obtain ⟨h1, h2⟩ := List.nodup_cons.1 hn
    have ha := hs a List.mem_cons_self
    have := ih (p.erase a) h2 (fun b hb => (List.mem_erase_of_ne (by rintro rfl; exact h1 hb)).2 (hs b (List.mem_cons_of_mem _ hb)))
    rw [List.length_erase_of_mem ha] at this
    have hp : 0 < p.length := List.length_pos_of_mem ha
    simp only [List.length_cons]; omega
theorem cnt_range (bs : List Bool) : ∀ k, k ≤ bs.length → (((List.range k).filter fun j => bs.getD j false).length : Int) = cnt (bs.take k) := by
  intro k
  induction k with
  | zero => intro _; simp [cnt]
  | succ k ih =>
    intro hk
    have := ih (by omega)
    rw [List.range_succ, List.filter_append, List.length_append, cnt_step bs k (by omega), ← this, List.filter_cons, getD_in _ _ (show k < bs.length by omega)]
    split <;> simp [*]
theorem way_low {W T : Int} {bs : List Bool} (hf : FldG W T bs.length) {h : Int → Int → Int} (ho : HgtOk (atQ W T bs) h) {a c : Nat} {L : List Nat} (hw : Way (cellP bs) (adjW W T bs.length) a c L) (ha : cellP bs a) :
    lowH h ((c : Int) % W) ((c : Int) / W) ≤ lowH h ((a : Int) % W) ((a : Int) / W) + 2 * ((L.length : Int) - 1) ∧ lowH h ((a : Int) % W) ((a : Int) / W) ≤ lowH h ((c : Int) % W) ((c : Int) / W) + 2 * ((L.length : Int) - 1) := by
  induction hw with
  | refl a => simp
  | step hb hab _ ih =>
    rename_i a b c L _
    have h1 := ih hb
    have h2 := low_near ho (x := (a : Int) % W) (y := (a : Int) / W) (x' := (b : Int) % W) (y' := (b : Int) / W) (by rw [at_k hf (cellP_lt ha)]; exact ha) (by rw [at_k hf (cellP_lt hb)]; exact hb) (adjW_near hf hab)
    rw [List.length_cons]
    omega
/-- heights are near -/
theorem hgt_bd {W T : Int} {bs : List Bool} (hv : validB W T bs = true) (h1 : prtN W T bs = 1) {h : Int → Int → Int} (ho : HgtOk (atQ W T bs) h) (h0 : h (x0K W bs) (y0K W bs) = 0) : ∀ x y, Cor (atQ W T bs) x y → -60 ≤ h x y ∧ h x y ≤ 60 := by
  have hf := valid_fld hv
  obtain ⟨-, -, -, h24⟩ := validB_iff.1 hv
  obtain ⟨hm, hall⟩ := fst_all hf h1
  intro x y hc
  refine cor_all (Q := fun x y => -60 ≤ h x y ∧ h x y ≤ 60) (fun x y r => ?_) hc
  obtain ⟨k, hk, rfl, rfl, hb⟩ := at_ex hf r
  obtain ⟨L, hw, hn⟩ := Way.ofConn (hall k hb)
  have hl : L.length ≤ ((List.range bs.length).filter fun j => bs.getD j false).length := nodup_sub _ _ hn (fun a ha => by
    have := hw.mem hm a ha
    exact List.mem_filter.2 ⟨List.mem_range.2 (cellP_lt this), this⟩)
  have h3 := cnt_range bs bs.length (Nat.le_refl _)
  rw [List.take_length] at h3
  have h4 := way_low hf ho hw hm
  have h5 := low_bd ho r
  have h6 := low_bd ho (show atQ W T bs ((fstK bs : Int) % W) ((fstK bs : Int) / W) = true by rw [at_k hf (cellP_lt hm)]; exact hm)
  unfold x0K y0K at h0
  rw [h0] at h6
  omega
end Go.Proofs.YtafmpgikdhlknaaGreat

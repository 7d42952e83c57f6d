
/- Regions that draw their order, whose one assignment at the end writes what they read: a condition holds behind every operation but that one. -/
import Derived.Deep.RegionHeld3
namespace Go.Proofs.Ytohbnogmeldmpaa

section
variable {P : Program} {ops : Array Oper} {Q : Exit → Act → World → Prop} {md : Region.Mode} {S : World → Prop} {z : Nat}
/-- operation z waits for number i by itself -/
def waitsFor (md : Region.Mode) (ops : Array Oper) (z i : Nat) : Bool := ((ops[z]?).map fun o => o.after.any fun e => Region.binds md e && e.on == i).getD false
theorem waits_no {i : Nat} {l : Array Bool} (h : waitsFor md ops z i = true) (hi : i ∈ Region.ready md ops l) (hz : z ∈ Region.ready md ops l) : False := by
  obtain ⟨-, o, ho, hall⟩ := mem_ready.1 hz
  have hu := (mem_ready.1 hi).1
  unfold waitsFor at h
  rw [ho] at h
  simp only [Option.map_some, Option.getD_some] at h
  obtain ⟨e, he, hb⟩ := Array.any_eq_true'.1 h
  rw [Bool.and_eq_true, beq_iff_eq] at hb
  have h1 := hall e he hb.1
  rw [hb.2] at h1
  rcases Nat.lt_or_ge i l.size with h' | h'
  · simp [h'] at hu h1; rw [hu] at h1; cases h1
  · simp [Array.getElem?_eq_none h'] at h1
/-- whatever order comes: the condition holds behind all but z -/
def anyZ (P : Program) (md : Region.Mode) (ops : Array Oper) (Q : Exit → Act → World → Prop) (S : World → Prop) (z : Nat) : Nat → Array Bool → Act → World → Prop
  | 0, l, a, w => Region.ready md ops l = [] ∧ Q .normal a w
  | n + 1, l, a, w => (Region.ready md ops l = [] → Q .normal a w) ∧ ∀ i ∈ Region.ready md ops l, wpOp P ops Q i (fun a' w' => (i = z ∨ S w') ∧ anyZ P md ops Q S z n (l.setIfInBounds i true) a' w') a w
theorem anyZ_any : ∀ (n : Nat) (l : Array Bool) (a : Act) (w : World), anyZ P md ops Q S z n l a w → wpAny P md ops Q n l a w
  | 0, _, _, _, h => h
  | n + 1, _, _, _, ⟨h1, h2⟩ => ⟨h1, fun i hi => wpOp_mono (fun a' w' k => anyZ_any n _ a' w' k.2) (h2 i hi)⟩
theorem anyZ_first {i : Nat} {oi : Oper} {v : Value} (hi : ops[i]? = some oi) (hsel : ∀ (j : Nat) (o : Oper) cs b, ops[j]? = some o → o.op ≠ .select cs b)
    (hQ : ∀ c a w, Q (.panic c) (a.put oi.dst v) w → Q (.panic c) a w) (hz : waitsFor md ops z i = true) (n : Nat) :
    ∀ (l : Array Bool) (a : Act) (w : World), (∀ j oj, ops[j]? = some oj → j ≠ i → l.getD j true = false → (∀ e ∈ oj.after, Region.binds md e = true → e.on ≠ i) → oi.apart ops oj = true) →
      i ∈ Region.ready md ops l → YieldsIf P ops S oi v a → S w → anyZ P md ops Q S z n (l.setIfInBounds i true) (a.put oi.dst v) w → anyZ P md ops Q S z (n + 1) l a w := by
  induction n with
  | zero =>
    intro l a w _ hr hy hS H
    constructor
    · intro h; rw [h] at hr; cases hr
    · intro j hj
      rcases Decidable.em (j = i) with rfl | hji
      · exact hy.wpOp hi hS ⟨.inr hS, H⟩
      · have t := ready_mono hj hji; rw [H.1] at t; cases t
  | succ n ih =>
    intro l a w hfree hr hy hS H
    constructor
    · intro h; rw [h] at hr; cases hr
    · intro j hj
      rcases Decidable.em (j = i) with rfl | hji
      · exact hy.wpOp hi hS ⟨.inr hS, H⟩
      · have hjz : j ≠ z := fun e => waits_no hz hr (e ▸ hj)
        have K := H.2 j (ready_mono hj hji)
        obtain ⟨hju, oj, hoj, hall⟩ := mem_ready.1 hj
        have hno : ∀ e ∈ oj.after, Region.binds md e = true → e.on ≠ i := by
          intro e he hb heq
          have t1 := hall e he hb
          have t0 := (mem_ready.1 hr).1
          rw [heq] at t1
          rcases Nat.lt_or_ge i l.size with h' | h'
          · simp [h'] at t0 t1; rw [t0] at t1; cases t1
          · simp [Array.getElem?_eq_none h'] at t1
        have M := wpOp_putIf hoj (hfree j oj hoj hji hju hno) (fun cs b => hsel i oi cs b hi) (fun cs b => hsel j oj cs b hoj) hQ hy K
        refine wpOp_mono (fun a' w' t => ?_) M
        obtain ⟨ty, ts, tw⟩ := t
        have ts' : S w' := ts.resolve_left hjz
        refine ⟨.inr ts', ih _ a' w' ?_ (ready_mono hr (Ne.symm hji)) ty ts' ?_⟩
        · intro k ok hk hki hun
          refine hfree k ok hk hki ?_
          rcases Decidable.em (j = k) with rfl | hjk
          · exact hju
          · rw [getD_set_ne true hjk] at hun; exact hun
        · rw [Array.setIfInBounds_comm _ _ hji]; exact tw
/-- take number i first -/
theorem anyZ_take (i : Nat) {oi : Oper} {v : Value} {n : Nat} {l : Array Bool} {a : Act} {w : World} (hi : ops.toList[i]? = some oi)
    (hs : Region.noSelect ops = true) (hf : Region.free md ops l i = true) (hr : (Region.ready md ops l).contains i = true) (hz : waitsFor md ops z i = true)
    (hQ : ∀ c a w, Q (.panic c) (a.put oi.dst v) w → Q (.panic c) a w) (hw : Region.wanted oi (yielded ops a.tmps) = true) (hy : ∀ w, S w → (execOp a.eval oi).run P w = .ok (.value v) w) (hS : S w)
    (h : anyZ P md ops Q S z n (l.setIfInBounds i true) (a.put oi.dst v) w) : anyZ P md ops Q S z (n + 1) l a w := by
  have hi' : ops[i]? = some oi := by rw [← hi]; simp
  exact anyZ_first hi' (Region.noSelect_spec hs) hQ hz n l a w (Region.free_spec hi' hf) (by simpa using hr) (.inl ⟨hw, hy⟩) hS h
/-- whichever may come up -/
theorem anyZ_all (rs : List Nat) {n : Nat} {l : Array Bool} {a : Act} {w : World} (hr : Region.ready md ops l = rs) (hne : rs ≠ [])
    (h : ∀ i ∈ rs, wpOp P ops Q i (fun a' w' => (i = z ∨ S w') ∧ anyZ P md ops Q S z n (l.setIfInBounds i true) a' w') a w) : anyZ P md ops Q S z (n + 1) l a w := by
  refine ⟨fun h0 => absurd (hr ▸ h0) hne, fun i hi => h i (hr ▸ hi)⟩
theorem anyZ_done {l : Array Bool} {a : Act} {w : World} (hr : Region.ready md ops l = []) (h : Q .normal a w) : ∀ n, anyZ P md ops Q S z n l a w
  | 0 => ⟨hr, h⟩
  | _ + 1 => ⟨fun _ => h, by rw [hr]; simp⟩
/-- one operation -/
theorem wpOp_by (i : Nat) {oi : Oper} {K : Act → World → Prop} {a : Act} {w : World} (hi : ops.toList[i]? = some oi)
    (h : ∀ K' : Act → World → Prop, Shut (∀ a w, K a w → K' a w) → if Region.wanted oi (yielded ops a.tmps) = true then Oper.wp P oi a w K' Q else K' (a.put oi.dst undef) w) : wpOp P ops Q i K a w :=
  wpOp_step (by rw [← hi]; simp) (fun K' hK => h K' (fun a w k => hK a w k))
theorem region_anyZ {id : Nat} {a : Act} {w : World} (S : World → Prop) (z : Nat) (hm : P.follows .mixedOrders = true)
    (h : anyZ P .any ops Q S z ops.size (Array.replicate ops.size false) a w.drew) : (Code.region id ops true).wp P Q a w :=
  wp_region_any hm (anyZ_any _ _ _ _ h)
end
end Go.Proofs.Ytohbnogmeldmpaa

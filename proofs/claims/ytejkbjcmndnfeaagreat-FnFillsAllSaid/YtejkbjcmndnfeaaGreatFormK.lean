
/- Contracts: lists of pieces sorted and compacted in place. -/
import Derived.Test.YtejkbjcmndnfeaaGreatFormC
import Derived.Test.YtejkbjcmndnfeaaGreatDrawPieces
import Derived.Test.YtejkbjcmndnfeaaGreatShelfF
import Derived.Test.YtejkbjcmndnfeaaGreatRowP
namespace Go.Proofs.YtejkbjcmndnfeaaGreat
open Go.RowKit Go.Sort

theorem grown_sortW {α : Type} [Inhabited α] (enc : α → Value) (w : World) (g q : Nat) (d : Array α) (os : Array Obj) : w.grownBy (grow (putRow enc (Sort.ahead w q) g 0 d) os) (some g) := by
  refine ⟨rfl, rfl, rfl, ?_, fun k hk hn => putRow_other enc w g 0 q d os k hk (fun e => hn (by rw [e]))⟩
  show w.heap.size ≤ ((w.heap.modify g _) ++ os).size
  simp
theorem putCells_mapF {α : Type} [Inhabited α] (enc : α → Value) (off : Nat) (d : Array α) (c : Array Value) : putCells enc off d c = putCells id off (d.map enc) c := by
  unfold putCells
  congr 1
  funext k x
  rw [Array.size_map]
  by_cases h : off ≤ k ∧ k < off + d.size
  · rw [if_pos h, if_pos h]
    have hk : k - off < d.size := by omega
    simp [hk]
  · rw [if_neg h, if_neg h]
theorem putRow_mapF {α : Type} [Inhabited α] (enc : α → Value) (w : World) (blk off : Nat) (d : Array α) : putRow enc w blk off d = putRow id w blk off (d.map enc) := by
  unfold putRow
  congr 1
  funext c
  exact putCells_mapF enc off d c
theorem holds_mapF {α : Type} [Inhabited α] {enc : α → Value} {w : World} {blk off : Nat} {d : Array α} (h : Holds id w blk off (d.map enc)) : Holds enc w blk off d := by
  intro j hj
  have := h j (by simpa using hj)
  simpa [hj] using this
/-- a head that reads as a list -/
def HeadA (w : World) (x : Value) (p : List Ce) : Prop := ∃ (B : Option Addr) (c' : Nat), x = .slice B p.length c' ∧ p.length ≤ c' ∧ p.length ≤ 7 ∧ RdC w B p
theorem HeadsR.at_ {w : World} {xs : List Value} {pss : List (List Ce)} (h : HeadsR w xs pss) {k : Nat} (hk : k < pss.length) (hx : k < xs.length) : HeadA w xs[k] pss[k] := by
  obtain ⟨B, c', e, h1, h2, h3⟩ := h.2 k hk
  rw [List.getElem?_eq_getElem hx] at e
  injection e with e
  exact ⟨B, c', e, h1, h2, h3⟩
theorem HeadsR.mk {w : World} {xs : List Value} {pss : List (List Ce)} (hl : xs.length = pss.length) (h : ∀ k (hk : k < pss.length) (hx : k < xs.length), HeadA w xs[k] pss[k]) : HeadsR w xs pss :=
  ⟨hl, fun k hk => by
    obtain ⟨B, c', e, h1, h2, h3⟩ := h k hk (by omega)
    exact ⟨B, c', by rw [List.getElem?_eq_getElem (by omega), e], h1, h2, h3⟩⟩
set_option maxRecDepth 100000 in
set_option maxHeartbeats 4000000 in
theorem sortF_any (g c base m L : Nat) (xs : List Value) (S : List (List Ce)) (w : World) (h : w.ownsRow base 32 1 (.slice (some ⟨g, 0, none⟩) (m + 1) c) (m + 1) xs) (H : HeadsR w xs S)
    (hP : Parts w base (.slice (some ⟨g, 0, none⟩) (m + 1) c) xs) (hL : ∀ p ∈ S, p.length = L) (hm : m ≤ 1000000) :
    Calls Tryz.prog 147 #[.slice (some ⟨g, 0, none⟩) (m + 1) c, .func (.func 148) #[] #[]] w fun e w' => ∃ xs' S', e = .returned (.tuple #[]) ∧
      w'.ownsRow base 32 1 (.slice (some ⟨g, 0, none⟩) (m + 1) c) (m + 1) xs' ∧ HeadsR w' xs' S' ∧ Parts w' base (.slice (some ⟨g, 0, none⟩) (m + 1) c) xs' ∧ S'.Perm S ∧ (S'.Pairwise fun x y => ltL y x = false) ∧ w.grownBy w' (some g) := by
  have hxl : xs.length = m + 1 := by have := h.1; omega
  have hSl : S.length = m + 1 := by have := H.1; omega
  let enc : Fin (m + 1) → Value := fun i => xs[i.1]'(by have := i.2; omega)
  let ob : Fin (m + 1) → List Ce := fun i => S[i.1]'(by have := i.2; omega)
  let cf : Fin (m + 1) → Fin (m + 1) → Int := fun i j => cmpF (ob i) (ob j)
  let d : Array (Fin (m + 1)) := Array.ofFn id
  have hds : d.size = m + 1 := by simp [d]
  have hdm : d.map enc = xs.toArray := by
    apply Array.ext
    · simp [d, hxl]
    · intro i h1 h2
      simp [d, enc]
  have hdl : d.toList.map ob = S := by
    apply List.ext_getElem
    · simp [d, hSl]
    · intro i h1 h2
      rw [List.getElem_map]
      have hi : i < d.toList.length := by simpa using h1
      have e : (d.toList[i]).1 = i := by
        rw [Array.getElem_toList]
        simp [d]
      show S[(d.toList[i]).1]'_ = S[i]
      simp only [e]
  have hHead : ∀ i : Fin (m + 1), HeadA w (enc i) (ob i) := fun i => H.at_ (by have := i.2; omega) (by have := i.2; omega)
  have hO : SWO (ltOf cf) :=
    ⟨fun x => swoF.irrefl (ob x), fun x y z => swoF.trans (ob x) (ob y) (ob z), fun x y z => swoF.ntrans (ob x) (ob y) (ob z)⟩
  have h1 : OneCell enc := fun i => by obtain ⟨B, c', e, -⟩ := hHead i; rw [e]; rfl
  have hH : Holds enc w g 0 d := holds_mapF (by rw [hdm]; exact own_holds h)
  have hlt : g < w.heap.size := (h.lt g rfl).2
  have hne : ∀ (i : Fin (m + 1)) (ad : Addr) (n c' : Nat), enc i = .slice (some ad) n c' → base ≤ ad.block ∧ ad.block < w.heap.size ∧ some ad.block ≠ some g := fun i ad n c' e => by
    obtain ⟨k1, k2, k3⟩ := hP i.1 ad n c' (by rw [List.getElem?_eq_getElem (by have := i.2; omega)]; exact congrArg some e)
    exact ⟨k1, k2, fun e2 => k3 e2.symm⟩
  have hkeep : ∀ (w' : World), w.grownBy w' (some g) → ∀ i, HeadA w' (enc i) (ob i) := fun w' hg i => by
    obtain ⟨B, c', e, k1, k2, k3⟩ := hHead i
    exact ⟨B, c', e, k1, k2, Rd.grownBelow k3 hg (fun _ ad ha => by subst ha; exact (hne i ad _ _ e).2.2)⟩
  have hob : ∀ i, (ob i).length = L := fun i => hL _ (List.getElem_mem _)
  have eg : ∀ args w, (callFunc 148 args).run Tryz.prog w = .ok (.enter 148 args) w := enters_of Tryz.func148 (by kernel_rfl) rfl
  have hcmp : CmpLays1 Tryz.prog 148 #[] enc cf g 0 d.size w := by
    intro q os dk _ x y
    have hg := grown_sortW enc w g q dk os
    obtain ⟨B, c', e, k1, k2, k3⟩ := hkeep _ hg x
    obtain ⟨B', c2, e2, l1, l2, l3⟩ := hkeep _ hg y
    rw [e, e2, hob x, hob y]
    rw [hob x] at k2
    exact compareForms_any B B' L c' c2 (ob x) (ob y) _ k3 l3 (hob x) (hob y) (by omega)
  have hS := Any.slices_SortFunc Tryz.sortFL enc h1 cf hO 148 #[] g 0 c d w eg hcmp hH hlt (by omega)
  rw [hds] at hS
  refine hS.mono ?_
  rintro e w' ⟨rfl, d', n, os, hp, hs, rfl⟩
  have hd's : d'.size = m + 1 := by rw [hp.1, hds]
  have hg := grown_sortW enc w g n d' os
  have e1 : d'.extract 0 d'.size = d' := Array.extract_size
  have e2 : d.extract 0 d.size = d := Array.extract_size
  have hperm : d'.toList.Perm d.toList := by
    obtain ⟨p1, _, p3⟩ := hp
    have k1 : d'.extract 0 (m + 1) = d' := (congrArg (fun z => d'.extract 0 z) hd's).symm.trans e1
    have k2 : d.extract 0 (m + 1) = d := (congrArg (fun z => d.extract 0 z) hds).symm.trans e2
    rw [k1, k2] at p3
    exact p3
  refine ⟨d'.toList.map enc, d'.toList.map ob, rfl, ?_, ?_, ?_, ?_, ?_, hg⟩
  · have := own_putRow h (d'.map enc) (by simp [hd's, hxl]) n os
    rw [← putRow_mapF] at this
    unfold sortWorld
    simpa using this
  · refine HeadsR.mk (by simp) (fun k hk hx => ?_)
    rw [List.getElem_map, List.getElem_map]
    exact hkeep _ hg _
  · intro k ad n' c' e
    rw [List.getElem?_map] at e
    cases hq : d'.toList[k]? with
    | none => rw [hq] at e; cases e
    | some i =>
      rw [hq] at e
      injection e with e
      obtain ⟨k1, k2, k3⟩ := hne i ad _ _ e
      exact ⟨k1, Nat.lt_of_lt_of_le k2 hg.size, fun e2 => k3 e2.symm⟩
  · rw [← hdl]
    exact hperm.map ob
  · rw [List.pairwise_map, List.pairwise_iff_getElem]
    intro i j hi hj hij
    have hi' : i < d'.size := by simpa using hi
    have hj' : j < d'.size := by simpa using hj
    have := hs i j (Nat.zero_le _) hij (by omega)
    rw [getElem!_pos d' j hj', getElem!_pos d' i hi'] at this
    rw [← ltOf_cmpF]
    exact this
theorem own_setCells {base e g n c : Nat} : ∀ (zs : List Value) (o : Nat) {w : World} {xs : List Value}, w.ownsRow base e 1 (.slice (some ⟨g, 0, none⟩) n c) n xs → ∃ xs', (w.setCells g o zs).ownsRow base e 1 (.slice (some ⟨g, 0, none⟩) n c) n xs' ∧ xs'.take o = xs.take o
  | [], o, w, xs, h => ⟨xs, h, rfl⟩
  | z :: zs, o, w, xs, h => by
    obtain ⟨xs', h1, h2⟩ := own_setCells zs (o + 1) (h.stored o z).1
    refine ⟨xs', h1, ?_⟩
    have := congrArg (List.take o) h2
    rw [List.take_take, List.take_take, Nat.min_eq_left (by omega), List.take_set_of_le (Nat.le_refl o)] at this
    exact this
theorem grown_setCells (g : Nat) : ∀ (zs : List Value) (o : Nat) (w : World), w.grownBy (w.setCells g o zs) (some g)
  | [], _, w => World.grownBy.refl w _
  | z :: zs, o, w => grownBy_trans' (set_grown w g o z) (grown_setCells g zs (o + 1) _)
theorem own_short {w : World} {base e g n c k : Nat} {xs : List Value} (h : w.ownsRow base e 1 (.slice (some ⟨g, 0, none⟩) n c) n xs) (hk : k ≤ n) : w.ownsRow base e 1 (.slice (some ⟨g, 0, none⟩) k c) k (xs.take k) := by
  obtain ⟨h1, h2⟩ := h
  rcases h2 with ⟨e1, _⟩ | ⟨g', cap, cur, hv, hg, hh, h3, h4, h5, h6⟩
  · cases e1
  · injection hv with hA hn hc
    injection hA with hA
    injection hA with hg2
    subst hg2; subst hc
    refine ⟨by rw [List.length_take]; omega, .inr ⟨g, c, cur, rfl, hg, hh, by omega, h4, h5, ?_⟩⟩
    rw [← h6, List.take_take, Nat.min_eq_left (by omega), Nat.mul_one]
theorem own_cap {w : World} {base e g n c : Nat} {xs : List Value} (h : w.ownsRow base e 1 (.slice (some ⟨g, 0, none⟩) n c) n xs) : n ≤ c ∧ c ≤ maxLen := by
  rcases h.2 with ⟨e1, _⟩ | ⟨g', cap, cur, hv, hg, hh, h3, h4, h5, h6⟩
  · cases e1
  · injection hv with hA hn hc
    subst hc
    exact ⟨h3, h4⟩
end Go.Proofs.YtejkbjcmndnfeaaGreat

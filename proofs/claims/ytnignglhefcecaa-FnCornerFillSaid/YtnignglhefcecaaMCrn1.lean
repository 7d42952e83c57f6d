
/- FnCornerFill: joined from CornN, RepI, CornI, CornA, CornB. -/
import Derived.Test.YtnignglhefcecaaMemE
import Derived.Laws.CopyOwn
import Derived.Test.YtnignglhefcecaaAlive
/- A square filled by corners, plainly: the program and the reference fill it alike. -/
namespace Go.Proofs.Ytnignglhefcecaa
/-- a square filled by corners, as the program goes: the pieces of a square first, then its quarters -/
def crnIn (x y h gx gy q : Nat) : Bool := (decide (x + h ≤ gx) == decide (q % 2 = 1)) && (decide (y + h ≤ gy) == decide (q / 2 = 1))
def crnX (x y h gx gy q : Nat) : Nat × Nat := if crnIn x y h gx gy q = true then (gx, gy) else (x + h - 1 + q % 2, y + h - 1 + q / 2)
def crnF (side x y h gx gy : Nat) (v : Int) (F : List Int) (q : Nat) : List Int := if crnIn x y h gx gy q = true then F else F.set ((y + h - 1 + q / 2) * side + (x + h - 1 + q % 2)) v
def crnL (side x y h gx gy : Nat) (v : Int) (F : List Int) : Nat → List Int
  | 0 => F
  | q + 1 => crnF side x y h gx gy v (crnL side x y h gx gy v F q) q
/-- level f: a square of the side 2^f -/
def crnI (side : Nat) : Nat → Nat → Nat → Nat → Nat → List Int × Int → List Int × Int
  | 0, _, _, _, _, s => s
  | f + 1, x, y, gx, gy, (F, n) =>
    (List.range 4).foldl (fun s q => crnI side f (x + q % 2 * 2 ^ f) (y + q / 2 * 2 ^ f) (crnX x y (2 ^ f) gx gy q).1 (crnX x y (2 ^ f) gx gy q).2 s) (crnL side x y (2 ^ f) gx gy n F 4, n + 1)
/-- as the reference goes: quarter by quarter -/
def crnS (side : Nat) : Nat → Nat → Nat → Nat → List Int × Int → List Int × Int
  | 0, _, _, _, s => s
  | f + 1, x, y, hole, (F, n) =>
    (List.range 4).foldl (fun s q =>
      if (x + q % 2 * 2 ^ f ≤ hole % side ∧ hole % side < x + q % 2 * 2 ^ f + 2 ^ f) ∧ (y + q / 2 * 2 ^ f ≤ hole / side ∧ hole / side < y + q / 2 * 2 ^ f + 2 ^ f)
      then crnS side f (x + q % 2 * 2 ^ f) (y + q / 2 * 2 ^ f) hole s
      else crnS side f (x + q % 2 * 2 ^ f) (y + q / 2 * 2 ^ f) ((y + 2 ^ f - 1 + q / 2) * side + (x + 2 ^ f - 1 + q % 2)) (s.1.set ((y + 2 ^ f - 1 + q / 2) * side + (x + 2 ^ f - 1 + q % 2)) n, s.2)) (F, n + 1)
theorem crnL_len (side x y h gx gy : Nat) (v : Int) (F : List Int) : ∀ q, (crnL side x y h gx gy v F q).length = F.length
  | 0 => rfl
  | q + 1 => by
    show (crnF side x y h gx gy v (crnL side x y h gx gy v F q) q).length = _
    unfold crnF
    split
    · exact crnL_len side x y h gx gy v F q
    · rw [List.length_set]; exact crnL_len side x y h gx gy v F q
theorem crn_lenQ (side : Nat) : ∀ (f x y gx gy : Nat) (s : List Int × Int), (crnI side f x y gx gy s).1.length = s.1.length
  | 0, _, _, _, _, _ => rfl
  | f + 1, x, y, gx, gy, (F, n) => by
    have key : ∀ (l : List Nat) (s : List Int × Int), (l.foldl (fun s q => crnI side f (x + q % 2 * 2 ^ f) (y + q / 2 * 2 ^ f) (crnX x y (2 ^ f) gx gy q).1 (crnX x y (2 ^ f) gx gy q).2 s) s).1.length = s.1.length := by
      intro l
      induction l with
      | nil => intro s; rfl
      | cons a l ih => intro s; rw [List.foldl_cons, ih, crn_lenQ side f]
    exact (key _ _).trans (crnL_len _ _ _ _ _ _ _ _ _)
theorem crn_len (side f x y gx gy N : Nat) (n : Int) : (crnI side f x y gx gy (List.replicate N (-1), n)).1.length = N := by rw [crn_lenQ]; simp
theorem crn_eq : ∀ f ∈ [0, 1, 2], ∀ cell ∈ List.range (2 ^ f * 2 ^ f), (crnI (2 ^ f) f 0 0 (cell % 2 ^ f) (cell / 2 ^ f) (List.replicate (2 ^ f * 2 ^ f) (-1), 0)).1 = (crnS (2 ^ f) f 0 0 cell (List.replicate (2 ^ f * 2 ^ f) (-1), 0)).1 := by decide +kernel
end Go.Proofs.Ytnignglhefcecaa

/- Contract: slices.Repeat of one number. -/
namespace Go.Proofs.Ytnignglhefcecaa
open Go.RowKit

theorem and_low (n : Nat) (hn : n ≤ 64) : bits BinOp.and IntKind.u64 (n : Int) 4294967295 = (n : Int) := by
  revert n; decide +kernel
set_option maxHeartbeats 1000000 in
theorem mul64_one (n : Nat) (hn : n ≤ 64) (w : World) :
    Calls Try.prog 75 #[.int .u64 1, .int .u64 n] w fun e w' => e = .returned (.tuple #[.int .u64 0, .int .u64 n]) ∧ w = w' := by
  have a1 : bits BinOp.and IntKind.u64 1 4294967295 = 1 := by decide +kernel
  have a2 := and_low n hn
  have a3 : (n : Int) / 4294967296 = 0 := by omega
  have a4 : IntKind.u64.wrap (n : Int) = (n : Int) := by revert n; decide +kernel
  have a5 : bits BinOp.and IntKind.u64 0 4294967295 = 0 := by decide +kernel
  go_enter Try.func75, Try.ntmps75
  go_wp2
  go_ret2
  exact ⟨rfl, rfl⟩
set_option maxHeartbeats 1000000 in
theorem mul_one_any (n : Nat) (hn : n ≤ 64) (w : World) :
    Calls Try.prog 60 #[.int .u64 1, .int .u64 n] w fun e w' => e = .returned (.tuple #[.int .u64 0, .int .u64 n]) ∧ w = w' := by
  go_enter Try.func60, Try.ntmps60
  go_wp2_with (go_at_call 75; refine (mul64_one n hn _).mono ?_; rintro e w' ⟨rfl, rfl⟩)
  go_ret2
  exact ⟨rfl, rfl⟩
/-- k numbers written, the others still as they were made -/
def repL (v : Int) (n k : Nat) : List Value := (List.replicate k (Value.int .i64 v)) ++ List.replicate (n - k) (.int .i64 0)
theorem repL_len (v : Int) {n k : Nat} (hk : k ≤ n) : (repL v n k).length = n := by unfold repL; simp; omega
theorem repL_one (v : Int) {n k m : Nat} (hm : k + m ≤ n) : splice (repL v n k) k (List.replicate m (Value.int .i64 v)) = repL v n (k + m) := by
  unfold splice repL
  have e1 : (List.replicate k (Value.int .i64 v) ++ List.replicate (n - k) (Value.int .i64 0)).take k = List.replicate k (Value.int .i64 v) := List.take_left' (by simp)
  rw [e1, List.length_replicate, List.drop_append, List.drop_of_length_le (by simp), List.nil_append, List.length_replicate, List.drop_replicate, ← List.append_assoc, List.replicate_append_replicate]
  congr 2
  omega
theorem repL_all (v : Int) (n : Nat) : repL v n n = (List.replicate n v).map (.int .i64) := by unfold repL; simp
theorem repL_get {v : Int} {n k j : Nat} {u : Value} {m : Nat} (hm : m ≤ k) (h : (List.replicate m (Value.int .i64 v))[j]? = some u) : (repL v n k)[j]? = some u := by
  have hj : j < m := by
    rcases Nat.lt_or_ge j m with h1 | h1
    · exact h1
    · rw [List.getElem?_eq_none (by simpa using h1)] at h; cases h
  rw [List.getElem?_replicate, if_pos hj] at h
  unfold repL
  rw [List.getElem?_append_left (by simp; omega), List.getElem?_replicate, if_pos (by omega)]; exact h
theorem made_row {v : Int} {w1 : World} {g n : Nat} {e : TypeId} (h : w1.ownsRow g e 1 (.slice (some ⟨g, 0, none⟩) n n) n (madeCells (Value.int .i64 0).cells (n * 1)).toList) : Hid (w1.heap[g]? = some (.cells (repL v n 0).toArray e (0, 0))) := by
  rcases h.2 with ⟨e, -⟩ | ⟨g', cap, cur, hv, hg, hh, h1, h2, h3, h4⟩
  · cases e
  · injection hv with ha hb hc
    injection ha with ha; injection ha with ha
    subst ha; subst hc
    show _ = _
    rw [hh]
    have e1 : cur.toList = repL v n 0 := by
      rw [Nat.mul_one] at h4
      rw [List.take_of_length_le (by simp; omega)] at h4
      rw [h4, show (Value.int .i64 0).cells = #[.int .i64 0] from rfl, toList_madeCells_one]
      unfold repL; simp
    rw [← e1]
theorem one_cell {w : World} {b off : Nat} {v : Int} (h : w.cell? ⟨b, off, none⟩ = some (.int .i64 v)) : ∀ j u, [Value.int .i64 v][j]? = some u → w.cell? ((⟨b, off, none⟩ : Addr).add j) = some u := by
  intro j u hu
  match j, hu with
  | 0, hu => simp at hu; subst hu; rw [add_zero']; exact h
theorem rep_run (W : World) (hsz : (Try.prog.info? 3).map (·.size) = some 1) (v : Int) (n k m g : Nat) (hm : m = min k (n - k)) (hk : k ≤ n) (w0 : World)
    (hg : Hid (W.heap[g]? = some (.cells (repL v n k).toArray 3 (0, 0)))) (hb : Below w0.heap.size w0 W) (hB : w0.heap.size ≤ g) :
    ∃ w', Sem.run Try.prog (Builtin.copy_ #[38, 38] 3 #[.slice (some ⟨g, k, none⟩) (n - k) (n - k), .slice (some ⟨g, 0, none⟩) k n]) W = .ok (.int .i64 m) w' ∧ Hid (w'.heap[g]? = some (.cells (repL v n (k + m)).toArray 3 (0, 0))) ∧ Below w0.heap.size w0 w' := by
  have h := run_copy_row (P := Try.prog) W 38 38 3 3 g k (n - k) (n - k) ⟨g, 0, none⟩ k n (repL v n k).toArray 3 (List.replicate m (Value.int .i64 v)) Try.underlying38 hsz hg.out
    (by rw [List.length_replicate]; exact hm) (fun j u hu => by
      rw [add_ofs, Nat.zero_add, cell_of_row _ _ _ _ _ _ hg.out]
      have := repL_get (n := n) (show m ≤ k by omega) hu
      simpa using this) (by rw [List.length_replicate]; simp [repL_len v hk]; omega) (by intro u hu; rw [List.eq_of_mem_replicate hu]; rfl)
  rw [List.length_replicate] at h
  refine ⟨_, h, ?_, below_setRow hb hB _⟩
  show _ = _
  rw [← repL_one v (show k + m ≤ n by omega)]
  simpa [splice] using setRow_heap W g _ ((repL v n k).take k ++ (List.replicate m (Value.int .i64 v) ++ (repL v n k).drop (k + m))).toArray 3 _ hg.out
set_option maxRecDepth 100000 in
set_option maxHeartbeats 2000000 in
theorem repeat_one (A : Option Addr) (c : Nat) (v : Int) (n : Nat) (h1 : 1 ≤ n) (hn : n ≤ 64) (w : World) (hr : Rd w A [.int .i64 v]) :
    Calls Try.prog 46 #[.slice A 1 c, .int .i64 n] w (NewW (List.replicate n v) w) := by
  obtain ⟨i0, hi, hz0, hz1, hz2⟩ := info_parts Try.infoI
  have hb1 : i0.bytes * n ≤ 281474976710656 := by rw [hz2]; omega
  have hsz : (Try.prog.info? 3).map (·.size) = some 1 := by rw [hi]; simp [hz1]
  have HZ := Lib.hid (And.intro hz0 (And.intro hz1 hz2))
  clear hz0 hz1 hz2
  obtain ⟨b, off, e0, hc⟩ := hr.atE (k := 0) (by simp)
  subst e0
  simp only [List.getElem_cons_zero, Nat.add_zero] at hc
  have hbw : b < w.heap.size := by have := World.block_lt_of_cell? w _ hc; simpa using this
  clear hr
  go_enter Try.func46, Try.ntmps46
  go_wp2_with (first
    | (go_at_call 60; refine (mul_one_any n hn _).mono ?_; rintro e w' ⟨rfl, rfl⟩)
    | (at_make; refine wpList_make_full _ rfl _ _ 38 rfl w.heap.size 3 i0 (.int .i64 0) 1 Try.underlying38 hi HZ.out.1 HZ.out.2.1 .i64 .i64 _ _ n rfl rfl rfl rfl hb1 (by unfold maxLen; omega) (Nat.le_refl _) ?_; intro w1 hown1 hgrow1; have HG := made_row (v := v) hown1; have BG := (Below.refl w.heap.size w).grown hgrow1 (Nat.le_refl _) (fun k hk => by cases hk); have hc1 := (BG.cell (p := ⟨b, off, none⟩) hbw).trans hc; clear hown1 hgrow1)
    | (refine wpList_copy_splice (o := ⟨some 33, _, _, _, _, _⟩) rfl (.tmp 31) (.tmp 32) 38 38 rfl 3 Try.underlying38 hsz _ _ _ _ _ _ rfl rfl w.heap.size 0 (repL v n 0) 3 HG.out [.int .i64 v] (by show 1 = min 1 n; omega) (fun _ => ⟨rfl, _, rfl, one_cell hc1⟩) (by rw [repL_len v (Nat.zero_le n)]; simp; omega) (by simp; rfl) w.heap.size w BG (Nat.le_refl _) ?_; intro w2 HG2 hB2))
  have HG2' : Hid (w2.heap[w.heap.size]? = some (.cells (repL v n 1).toArray 3 (0, 0))) := by
    have e := repL_one v (n := n) (k := 0) (m := 1) (by omega)
    rw [Nat.zero_add] at e
    show _ = _
    rw [← e]; exact HG2.out
  clear HG2 HG BG hc1 hb1 hi HZ
  go_loopw [8] (fun t8 wr => ∃ k : Nat, 1 ≤ k ∧ k ≤ n ∧ t8 = .int .i64 k ∧ Hid (wr.heap[w.heap.size]? = some (.cells (repL v n k).toArray 3 (0, 0))) ∧ Below w.heap.size w wr) (fun t8 _ => n - (intOf t8).toNat)
  case atStart => exact ⟨1, Nat.le_refl _, h1, by simp, HG2', hB2⟩
  case round =>
    clear HG2' hB2
    obtain ⟨k, k1, k2, rfl, HK, bk⟩ := hrel
    by_cases hlt : k < n
    · obtain ⟨m, hm⟩ : ∃ m, m = min k (n - k) := ⟨_, rfl⟩
      have hm1 : 1 ≤ m := by omega
      have hm3 : k + m ≤ n := by omega
      have HKd : Hid (wr.drew.heap[w.heap.size]? = some (.cells (repL v n k).toArray 3 (0, 0))) := HK
      have bkd : Below w.heap.size w wr.drew := ⟨bk.os, bk.tape, bk.output, bk.size, bk.block⟩
      obtain ⟨w4, hrun, HG4, hB4⟩ := rep_run wr.drew hsz v n k m w.heap.size hm k2 w HKd bkd (Nat.le_refl _)
      clear hm HKd bkd HK bk
      have hck : ¬ n = k := by omega
      have hkI : (k : Int) < (n : Int) := by omega
      go_wp2_with fail
      go_region
      all_goals go_wp2_with fail
      exact ⟨⟨k + m, by omega, hm3, by go_num, HG4, hB4⟩, by simp [intOf]; omega⟩
    · obtain rfl : k = n := by omega
      go_wp2
      go_ret
      refine ⟨some ⟨w.heap.size, 0, none⟩, by simp, ?_, bk⟩
      refine ⟨fun ad ha => by injection ha with ha; subst ha; exact Nat.le_refl _, fun _ => ⟨w.heap.size, _, rfl, HK.out, ?_⟩⟩
      rw [← repL_all, repL_len v (Nat.le_refl _)]
      exact List.take_of_length_le (by simp [repL_len v (Nat.le_refl k)])
end Go.Proofs.Ytnignglhefcecaa

/- Contract: the program's CornerFill. -/
namespace Go.Proofs.Ytnignglhefcecaa
open Go.RowKit

/-- all but two blocks is as it was -/
structure Two (g b : Nat) (w w' : World) : Prop where
  os : w'.os = w.os
  tape : w'.tape = w.tape
  output : w'.output = w.output
  size : w.heap.size ≤ w'.heap.size
  block : ∀ i, i < w.heap.size → i ≠ g → i ≠ b → w'.heap[i]? = w.heap[i]?
theorem Two.refl (g b : Nat) (w : World) : Two g b w w := ⟨rfl, rfl, rfl, Nat.le_refl _, fun _ _ _ _ => rfl⟩
theorem Two.trans {g b : Nat} {w1 w2 w3 : World} (h : Two g b w1 w2) (k : Two g b w2 w3) : Two g b w1 w3 :=
  ⟨k.os.trans h.os, k.tape.trans h.tape, k.output.trans h.output, Nat.le_trans h.size k.size, fun i hi h1 h2 => (k.block i (Nat.lt_of_lt_of_le hi h.size) h1 h2).trans (h.block i hi h1 h2)⟩
theorem Two.below {g b : Nat} {w w' : World} (h : Below w.heap.size w w') : Two g b w w' := ⟨h.os, h.tape, h.output, h.size, fun i hi _ _ => h.block i hi⟩
theorem Two.set {g b : Nat} (w : World) {p : Addr} (hp : p.block = g ∨ p.block = b) (u : Value) : Two g b w (w.setCell p u) :=
  ⟨rfl, rfl, rfl, by simp [World.setCell], fun i _ h1 h2 => Below.heap_setCell _ _ _ _ (by rcases hp with h | h <;> omega)⟩
theorem Two.cell {g b : Nat} {w w' : World} (h : Two g b w w') {i k : Nat} {v : Value} (hc : w.cell? ⟨i, k, none⟩ = some v) (h1 : i ≠ g) (h2 : i ≠ b) : w'.cell? ⟨i, k, none⟩ = some v := by
  have hlt : i < w.heap.size := by have := World.block_lt_of_cell? w _ hc; simpa using this
  rw [World.cell?_of_block (h.block i hlt h1 h2)]; exact hc
theorem heap_ltC {w : World} {b : Nat} {o : Obj} (h : w.heap[b]? = some o) : b < w.heap.size := by
  rcases Nat.lt_or_ge b w.heap.size with h1 | h1
  · exact h1
  · rw [Array.getElem?_eq_none h1] at h; cases h
theorem Two.alloc {g b : Nat} {w w' : World} (h : Two g b w w') (o : Obj) : Two g b w (w'.alloc o) := h.trans (.below (bl_alloc (Below.refl _ _) o))
theorem Two.setB {g b : Nat} {w w' : World} (h : Two g b w w') (i : Nat) (u : Value) : Two g b w (w'.setCell ⟨b, i, none⟩ u) := h.trans (Two.set (g := g) (b := b) w' (p := ⟨b, i, none⟩) (.inr rfl) u)
theorem Two.setG {g b : Nat} {w w' : World} (h : Two g b w w') (i : Nat) (u : Value) : Two g b w (w'.setCell ⟨g, i, none⟩ u) := h.trans (Two.set (g := g) (b := b) w' (p := ⟨g, i, none⟩) (.inl rfl) u)
structure CrnSt (side : Nat) (c g bn bf bs bk lo : Nat) (F : List Int) (n : Nat) (w : World) : Prop where
  sd : w.cell? ⟨bs, 0, none⟩ = some (.int .i64 side)
  fl : w.cell? ⟨bf, 0, none⟩ = some (.slice (some ⟨g, 0, none⟩) (side * side) c)
  nx : w.heap[bn]? = some (.cells #[.int .i64 n] 3 (0, 0))
  wk : w.cell? ⟨bk, 0, none⟩ = some (.func (.func 47) #[] #[.pointer (some ⟨bn, 0, none⟩), .pointer (some ⟨bf, 0, none⟩), .pointer (some ⟨bs, 0, none⟩), .pointer (some ⟨bk, 0, none⟩)])
  row : Wr w lo 3 (some ⟨g, 0, none⟩) (F.map (.int .i64))
  len : Hid (F.length = side * side)
  d1 : bs ≠ g ∧ bs ≠ bn
  d2 : bf ≠ g ∧ bf ≠ bn
  d3 : bk ≠ g ∧ bk ≠ bn
  d4 : g ≠ bn
theorem CrnSt.two {side c g bn bf bs bk lo n : Nat} {F : List Int} {w w' : World} (h : CrnSt side c g bn bf bs bk lo F n w) (hb : Below w.heap.size w w') : CrnSt side c g bn bf bs bk lo F n w' :=
  ⟨(hb.cell (p := ⟨bs, 0, none⟩) (World.block_lt_of_cell? w _ h.sd)).trans h.sd, (hb.cell (p := ⟨bf, 0, none⟩) (World.block_lt_of_cell? w _ h.fl)).trans h.fl,
    (hb.block bn (heap_ltC h.nx)).trans h.nx, (hb.cell (p := ⟨bk, 0, none⟩) (World.block_lt_of_cell? w _ h.wk)).trans h.wk, h.row.belo hb, h.len, h.d1, h.d2, h.d3, h.d4⟩
theorem CrnSt.lt {side c g bn bf bs bk lo n : Nat} {F : List Int} {w : World} (h : CrnSt side c g bn bf bs bk lo F n w) : bs < w.heap.size ∧ bf < w.heap.size ∧ bn < w.heap.size ∧ bk < w.heap.size :=
  ⟨by have := World.block_lt_of_cell? w _ h.sd; simpa using this, by have := World.block_lt_of_cell? w _ h.fl; simpa using this, heap_ltC h.nx, by have := World.block_lt_of_cell? w _ h.wk; simpa using this⟩
/-- a number written -/
theorem CrnSt.put {side c g bn bf bs bk lo n : Nat} {F : List Int} {w : World} (h : CrnSt side c g bn bf bs bk lo F n w) (j : Nat) (v : Int) : CrnSt side c g bn bf bs bk lo (F.set j v) n (w.setCell ⟨g, j, none⟩ (.int .i64 v)) := by
  have hk : ∀ i, i ≠ g → ∀ q : Nat, (w.setCell ⟨g, j, none⟩ (.int .i64 v)).cell? ⟨i, q, none⟩ = w.cell? ⟨i, q, none⟩ := fun i hi q => World.cell?_setCell_other w _ _ _ (fun e => hi (by injection e with e1; exact e1.symm))
  refine ⟨(hk _ h.d1.1 0).trans h.sd, (hk _ h.d2.1 0).trans h.fl, (Below.heap_setCell _ _ _ _ (by simp; exact fun e => h.d4 e.symm)).trans h.nx, (hk _ h.d3.1 0).trans h.wk, ?_, ?_, h.d1, h.d2, h.d3, h.d4⟩
  · rw [List.map_set]; exact h.row.store j _
  · show _ = _; rw [List.length_set]; exact h.len.out
/-- the next number -/
theorem CrnSt.inc {side c g bn bf bs bk lo n : Nat} {F : List Int} {w : World} (h : CrnSt side c g bn bf bs bk lo F n w) (m : Nat) : CrnSt side c g bn bf bs bk lo F m (w.setCell ⟨bn, 0, none⟩ (.int .i64 m)) := by
  have hk : ∀ i, i ≠ bn → ∀ q : Nat, (w.setCell ⟨bn, 0, none⟩ (.int .i64 m)).cell? ⟨i, q, none⟩ = w.cell? ⟨i, q, none⟩ := fun i hi q => World.cell?_setCell_other w _ _ _ (fun e => hi (by injection e with e1; exact e1.symm))
  refine ⟨(hk _ h.d1.2 0).trans h.sd, (hk _ h.d2.2 0).trans h.fl, ?_, (hk _ h.d3.2 0).trans h.wk, ?_, h.len, h.d1, h.d2, h.d3, h.d4⟩
  · have := heap_setCell_same w bn 0 #[.int .i64 n] 3 (.int .i64 m) h.nx
    simpa using this
  · exact h.row.keep fun q hq _ => Below.heap_setCell _ _ _ _ (by injection hq with hq; injection hq with hq; subst hq; exact fun e => h.d4 (by simpa using e))
def CrnOk (side : Nat) (c g bn bf bs bk lo f x y : Nat) : Prop :=
  ∀ (w : World) (F : List Int) (n gx gy : Nat), CrnSt side c g bn bf bs bk lo F n w → gx < side → gy < side → n + 5 ^ f ≤ 1000 →
    Calls Try.prog 47 #[.int .i64 x, .int .i64 y, .int .i64 ((2 ^ f : Nat) : Int), .agg #[.int .i64 gx, .int .i64 gy], .pointer (some ⟨bn, 0, none⟩), .pointer (some ⟨bf, 0, none⟩), .pointer (some ⟨bs, 0, none⟩), .pointer (some ⟨bk, 0, none⟩)] w
      fun e w' => e = .returned (.tuple #[]) ∧ (∃ m : Nat, (crnI side f x y gx gy (F, n)).2 = m ∧ m ≤ n + 5 ^ f ∧ CrnSt side c g bn bf bs bk lo (crnI side f x y gx gy (F, n)).1 m w') ∧ Two g bn w w'
set_option maxHeartbeats 1000000 in
theorem crn_zero (side c g bn bf bs bk lo x y : Nat) : CrnOk side c g bn bf bs bk lo 0 x y := by
  intro w F n gx gy S h3 h4 h5
  have e0 : (((2 ^ 0 : Nat) : Int) == 1) = true := by decide
  have S1 := S.two (bl_alloc (Below.refl w.heap.size w) (.cells #[.int .i64 gx, .int .i64 gy] 44))
  have B1 : Two g bn w _ := .below (bl_alloc (Below.refl w.heap.size w) (.cells #[.int .i64 gx, .int .i64 gy] 44))
  clear S
  generalize ((2 ^ 0 : Nat) : Int) = l at *
  go_enter Try.func47, Try.ntmps47
  go_wp2
  exact bodyPost_ret (v := .tuple #[]) (by simp [results, Try.results47, go_sem]) rfl ⟨rfl, ⟨n, rfl, by omega, S1⟩, B1⟩
/-- the quarters so far -/
def crnQ (side f x y gx gy : Nat) (s : List Int × Int) (q : Nat) : List Int × Int :=
  (List.range q).foldl (fun s q => crnI side f (x + q % 2 * 2 ^ f) (y + q / 2 * 2 ^ f) (crnX x y (2 ^ f) gx gy q).1 (crnX x y (2 ^ f) gx gy q).2 s) s
theorem crnQ_step (side f x y gx gy : Nat) (s : List Int × Int) (q : Nat) : crnQ side f x y gx gy s (q + 1) = crnI side f (x + q % 2 * 2 ^ f) (y + q / 2 * 2 ^ f) (crnX x y (2 ^ f) gx gy q).1 (crnX x y (2 ^ f) gx gy q).2 (crnQ side f x y gx gy s q) := by
  unfold crnQ; rw [List.range_succ, List.foldl_append]; rfl
theorem crnI_eq (side f x y gx gy : Nat) (F : List Int) (n : Int) : crnI side (f + 1) x y gx gy (F, n) = crnQ side f x y gx gy (crnL side x y (2 ^ f) gx gy n F 4, n + 1) 4 := rfl
/-- the array of gaps -/
def gapA (G : Nat → Nat × Nat) (q : Nat) : Array Value :=
  #[.int .i64 (if 0 < q then (G 0).1 else 0 : Nat), .int .i64 (if 0 < q then (G 0).2 else 0 : Nat), .int .i64 (if 1 < q then (G 1).1 else 0 : Nat), .int .i64 (if 1 < q then (G 1).2 else 0 : Nat),
    .int .i64 (if 2 < q then (G 2).1 else 0 : Nat), .int .i64 (if 2 < q then (G 2).2 else 0 : Nat), .int .i64 (if 3 < q then (G 3).1 else 0 : Nat), .int .i64 (if 3 < q then (G 3).2 else 0 : Nat)]
theorem cells_of {w : World} {g N : Nat} {F : List Int} {lo : Nat} (h : Wr w lo 3 (some ⟨g, 0, none⟩) (F.map (.int .i64))) (hl : F.length = N) {j : Nat} (hj : j < N) : (∃ ov, w.cell? ⟨g, j, none⟩ = some ov) ∧ w.frozen? ⟨g, j, none⟩ = false := by
  have hne : F.map (Value.int .i64) ≠ [] := by intro e; have := congrArg List.length e; rw [List.length_map, hl] at this; simp at this; omega
  obtain ⟨g', e, -, -, hf⟩ := h.form hne
  injection e with e; injection e with e; subst e
  have := h.rd.cellEM (k := j) (by rw [hl]; exact hj)
  rw [Nat.zero_add] at this
  exact ⟨⟨_, this⟩, hf j⟩
theorem gap_set (G : Nat → Nat × Nat) (q : Nat) (hq : q < 4) : ((gapA G q).setIfInBounds (q * 2) (.int .i64 ((G q).1 : Nat))).setIfInBounds (q * 2 + 1) (.int .i64 ((G q).2 : Nat)) = gapA G (q + 1) := by
  rcases (show q = 0 ∨ q = 1 ∨ q = 2 ∨ q = 3 from by omega) with rfl | rfl | rfl | rfl <;> rfl
/-- the first loop: q quarters have their gaps -/
structure Lp1 (side x y h c g bn bf bs bk lo gx gy n : Nat) (F : List Int) (w : World) (q : Nat) (wr : World) : Prop where
  st : CrnSt side c g bn bf bs bk lo (crnL side x y h gx gy n F q) (n + 1) wr
  box : wr.heap[w.heap.size]? = some (.cells #[.int .i64 gx, .int .i64 gy] 44 (0, 0))
  gaps : wr.heap[w.heap.size + 1]? = some (.cells (gapA (crnX x y h gx gy) q) 65 (0, 0))
  two : Two g bn w wr
  lt : g < w.heap.size ∧ bn < w.heap.size ∧ bs < w.heap.size ∧ bf < w.heap.size ∧ bk < w.heap.size
theorem gaps_put {w wr : World} {G : Nat → Nat × Nat} {q : Nat} {t : TypeId} (hq : q < 4) (h : wr.heap[w.heap.size + 1]? = some (.cells (gapA G q) t (0, 0))) :
    ((wr.setCell ⟨w.heap.size + 1, q * 2, none⟩ (.int .i64 ((G q).1 : Nat))).setCell ⟨w.heap.size + 1, q * 2 + 1, none⟩ (.int .i64 ((G q).2 : Nat))).heap[w.heap.size + 1]? = some (.cells (gapA G (q + 1)) t (0, 0)) := by
  rw [← gap_set G q hq]
  exact heap_setCell_same _ _ _ _ _ _ (heap_setCell_same _ _ _ _ _ _ h)
theorem CrnSt.far {side c g bn bf bs bk lo n : Nat} {F : List Int} {w : World} (h : CrnSt side c g bn bf bs bk lo F n w) {b : Nat} (i : Nat) (u : Value) (hb : g < b ∧ bn < b ∧ bs < b ∧ bf < b ∧ bk < b) : CrnSt side c g bn bf bs bk lo F n (w.setCell ⟨b, i, none⟩ u) := by
  have hk : ∀ j, j < b → ∀ q : Nat, (w.setCell ⟨b, i, none⟩ u).cell? ⟨j, q, none⟩ = w.cell? ⟨j, q, none⟩ := fun j hj q => World.cell?_setCell_other w _ _ _ (fun e => by injection e with e1; omega)
  exact ⟨(hk _ hb.2.2.1 0).trans h.sd, (hk _ hb.2.2.2.1 0).trans h.fl, (Below.heap_setCell _ _ _ _ (by simp; omega)).trans h.nx, (hk _ hb.2.2.2.2 0).trans h.wk,
    h.row.keep fun q hq _ => Below.heap_setCell _ _ _ _ (by injection hq with hq; injection hq with hq; subst hq; simp; omega), h.len, h.d1, h.d2, h.d3, h.d4⟩
theorem Two.setN {g b : Nat} {w w' : World} (h : Two g b w w') {i : Nat} (k : Nat) (u : Value) (hi : w.heap.size ≤ i) : Two g b w (w'.setCell ⟨i, k, none⟩ u) :=
  ⟨h.os, h.tape, h.output, by simp [World.setCell]; exact h.size, fun j hj h1 h2 => (Below.heap_setCell _ _ _ _ (by simp; omega)).trans (h.block j hj h1 h2)⟩
theorem Lp1.keep {side x y h c g bn bf bs bk lo gx gy n : Nat} {F : List Int} {w : World} {q : Nat} {wr : World} (H : Lp1 side x y h c g bn bf bs bk lo gx gy n F w q wr) (hq : q < 4) (hin : crnIn x y h gx gy q = true) (o : Obj) :
    Lp1 side x y h c g bn bf bs bk lo gx gy n F w (q + 1) (((wr.setCell ⟨w.heap.size + 1, q * 2, none⟩ (.int .i64 gx)).setCell ⟨w.heap.size + 1, q * 2 + 1, none⟩ (.int .i64 gy)).alloc o) := by
  have hG : crnX x y h gx gy q = (gx, gy) := by unfold crnX; rw [if_pos hin]
  have hL : crnL side x y h gx gy n F (q + 1) = crnL side x y h gx gy n F q := by show crnF _ _ _ _ _ _ _ _ _ = _; unfold crnF; rw [if_pos hin]
  have e := gaps_put hq H.gaps
  rw [hG] at e
  have l := H.lt
  refine ⟨?_, ?_, ?_, ((H.two.setN _ _ (by omega)).setN _ _ (by omega)).alloc o, l⟩
  · rw [hL]; exact ((H.st.far _ _ (by omega)).far _ _ (by omega)).two (bl_alloc (Below.refl _ _) o)
  · rw [(bl_alloc (Below.refl _ _) o).block _ (by simp; have := heap_ltC H.box; omega), Below.heap_setCell _ _ _ _ (by simp), Below.heap_setCell _ _ _ _ (by simp)]; exact H.box
  · rw [(bl_alloc (Below.refl _ _) o).block _ (by simp; have := heap_ltC H.gaps; omega)]; exact e
theorem Lp1.put {side x y h c g bn bf bs bk lo gx gy n : Nat} {F : List Int} {w : World} {q : Nat} {wr : World} (H : Lp1 side x y h c g bn bf bs bk lo gx gy n F w q wr) (hq : q < 4) (hin : crnIn x y h gx gy q = false) (o : Obj) :
    Lp1 side x y h c g bn bf bs bk lo gx gy n F w (q + 1) ((((wr.setCell ⟨g, (y + h - 1 + q / 2) * side + (x + h - 1 + q % 2), none⟩ (.int .i64 n)).setCell ⟨w.heap.size + 1, q * 2, none⟩ (.int .i64 ((x + h - 1 + q % 2 : Nat) : Int))).setCell ⟨w.heap.size + 1, q * 2 + 1, none⟩ (.int .i64 ((y + h - 1 + q / 2 : Nat) : Int))).alloc o) := by
  have hG : crnX x y h gx gy q = (x + h - 1 + q % 2, y + h - 1 + q / 2) := by unfold crnX; rw [if_neg (by rw [hin]; decide)]
  have hL : crnL side x y h gx gy n F (q + 1) = (crnL side x y h gx gy n F q).set ((y + h - 1 + q / 2) * side + (x + h - 1 + q % 2)) n := by show crnF _ _ _ _ _ _ _ _ _ = _; unfold crnF; rw [if_neg (by rw [hin]; decide)]
  have l := H.lt
  have e := gaps_put (w := w) (wr := wr.setCell ⟨g, (y + h - 1 + q / 2) * side + (x + h - 1 + q % 2), none⟩ (.int .i64 n)) hq ((Below.heap_setCell _ _ _ _ (by simp; omega)).trans H.gaps)
  rw [hG] at e
  refine ⟨?_, ?_, ?_, (((H.two.setG _ _).setN _ _ (by omega)).setN _ _ (by omega)).alloc o, l⟩
  · rw [hL]; exact (((H.st.put _ _).far _ _ (by omega)).far _ _ (by omega)).two (bl_alloc (Below.refl _ _) o)
  · rw [(bl_alloc (Below.refl _ _) o).block _ (by simp; have := heap_ltC H.box; omega), Below.heap_setCell _ _ _ _ (by simp), Below.heap_setCell _ _ _ _ (by simp), Below.heap_setCell _ _ _ _ (by simp; omega)]; exact H.box
  · rw [(bl_alloc (Below.refl _ _) o).block _ (by simp; have := heap_ltC H.gaps; omega)]; exact e
theorem crnX_lt {side x y h gx gy q : Nat} (h1 : gx < side) (h2 : gy < side) (h3 : x + h - 1 + q % 2 < side) (h4 : y + h - 1 + q / 2 < side) : (crnX x y h gx gy q).1 < side ∧ (crnX x y h gx gy q).2 < side := by
  unfold crnX; split
  · exact ⟨h1, h2⟩
  · exact ⟨h3, h4⟩
/-- the second loop: q quarters are filled -/
def Lp2 (side f x y c g bn bf bs bk lo gx gy : Nat) (s : List Int × Int) (n : Nat) (w : World) (q : Nat) (wr : World) : Prop :=
  ∃ m : Nat, (crnQ side f x y gx gy s q).2 = m ∧ m ≤ n + q * 5 ^ f ∧ CrnSt side c g bn bf bs bk lo (crnQ side f x y gx gy s q).1 m wr ∧ Two g bn w wr
theorem Lp2.next {side f x y c g bn bf bs bk lo gx gy : Nat} {s : List Int × Int} {n : Nat} {w : World} {q m a b X Y : Nat} {w4 w5 : World} (hX : x + q % 2 * 2 ^ f = X) (hY : y + q / 2 * 2 ^ f = Y) (hG : Hid (crnX x y (2 ^ f) gx gy q = (a, b)))
    (hm : (crnQ side f x y gx gy s q).2 = m) (hle : m ≤ n + q * 5 ^ f) (hT : Two g bn w w4)
    (hpost : (∃ m' : Nat, (crnI side f X Y a b ((crnQ side f x y gx gy s q).1, (m : Int))).2 = m' ∧ m' ≤ m + 5 ^ f ∧ CrnSt side c g bn bf bs bk lo (crnI side f X Y a b ((crnQ side f x y gx gy s q).1, (m : Int))).1 m' w5) ∧ Two g bn w4 w5) :
    Lp2 side f x y c g bn bf bs bk lo gx gy s n w (q + 1) w5 := by
  obtain ⟨⟨m', e, hl, S⟩, T⟩ := hpost
  have e0 : ((crnQ side f x y gx gy s q).1, (m : Int)) = crnQ side f x y gx gy s q := by rw [← hm]
  have e1 : crnQ side f x y gx gy s (q + 1) = crnI side f X Y a b (crnQ side f x y gx gy s q) := by rw [crnQ_step, hG.out, hX, hY]
  rw [e0] at e S
  refine ⟨m', by rw [e1]; exact e, ?_, by rw [e1]; exact S, hT.trans T⟩
  rw [Nat.succ_mul]; omega
end Go.Proofs.Ytnignglhefcecaa

/- The closure of the program's CornerFill at the squares side 2, level 1 at 0, 0, side 4, level 1 at 0, 0. -/
namespace Go.Proofs.Ytnignglhefcecaa
open Go.RowKit
set_option maxRecDepth 100000 in
set_option maxHeartbeats 4000000 in
theorem crn_2_1_0_0 (c g bn bf bs bk lo : Nat) : CrnOk 2 c g bn bf bs bk lo 1 0 0 := by
  intro w F n gx gy S h3 h4 h5
  have h6 : n + 1 + 4 * 5 ^ 0 ≤ 1000 := by
    have : (5 : Nat) ^ 1 = 5 * 5 ^ 0 := by decide
    have : 1 ≤ 5 ^ 0 := by decide
    omega
  rw [crnI_eq]
  have S1 := S.two (bl_alloc (Below.refl w.heap.size w) (.cells #[.int .i64 gx, .int .i64 gy] 44))
  have c0 := cell_of_row _ _ 0 _ _ _ S1.nx
  have f0 := frozen_of_row _ _ 0 _ _ S1.nx
  have hbn : bn < w.heap.size := heap_ltC S.nx
  have HGW : Hid (g < w.heap.size ∧ bn < w.heap.size ∧ bs < w.heap.size ∧ bf < w.heap.size ∧ bk < w.heap.size) := by
    obtain ⟨⟨ov, k1⟩, -⟩ := cells_of S.row S.len.out (j := 0) (by decide)
    exact ⟨by have := World.block_lt_of_cell? w _ k1; simpa using this, hbn, S.lt.1, S.lt.2.1, S.lt.2.2.2⟩
  have S2 := (S1.inc (n + 1)).two (bl_alloc (Below.refl _ _) (.cells #[.int .i64 0, .int .i64 0, .int .i64 0, .int .i64 0, .int .i64 0, .int .i64 0, .int .i64 0, .int .i64 0] 65))
  have B2 : Two g bn w (((w.alloc (.cells #[.int .i64 gx, .int .i64 gy] 44)).setCell ⟨bn, 0, none⟩ (.int .i64 ((n + 1 : Nat) : Int))).alloc (.cells #[.int .i64 0, .int .i64 0, .int .i64 0, .int .i64 0, .int .i64 0, .int .i64 0, .int .i64 0, .int .i64 0] 65)) :=
    (((Two.refl g bn w).alloc _).setB 0 _).alloc _
  have P2 : (((w.alloc (.cells #[.int .i64 gx, .int .i64 gy] 44)).setCell ⟨bn, 0, none⟩ (.int .i64 ((n + 1 : Nat) : Int))).alloc (.cells #[.int .i64 0, .int .i64 0, .int .i64 0, .int .i64 0, .int .i64 0, .int .i64 0, .int .i64 0, .int .i64 0] 65)).heap[w.heap.size]? = some (.cells #[.int .i64 gx, .int .i64 gy] 44 (0, 0)) := by
    rw [(bl_alloc (Below.refl _ _) _).block w.heap.size (by simp), Below.heap_setCell _ _ _ _ (by simp; omega)]
    exact heap_alloc_new w _
  have Q2 : (((w.alloc (.cells #[.int .i64 gx, .int .i64 gy] 44)).setCell ⟨bn, 0, none⟩ (.int .i64 ((n + 1 : Nat) : Int))).alloc (.cells #[.int .i64 0, .int .i64 0, .int .i64 0, .int .i64 0, .int .i64 0, .int .i64 0, .int .i64 0, .int .i64 0] 65)).heap[w.heap.size + 1]? = some (.cells (gapA (crnX 0 0 1 gx gy) 0) 65 (0, 0)) := by
    have := heap_alloc_new ((w.alloc (.cells #[.int .i64 gx, .int .i64 gy] 44)).setCell ⟨bn, 0, none⟩ (.int .i64 ((n + 1 : Nat) : Int))) (.cells #[.int .i64 0, .int .i64 0, .int .i64 0, .int .i64 0, .int .i64 0, .int .i64 0, .int .i64 0, .int .i64 0] 65)
    have e : ((w.alloc (.cells #[.int .i64 gx, .int .i64 gy] 44)).setCell ⟨bn, 0, none⟩ (.int .i64 ((n + 1 : Nat) : Int))).heap.size = w.heap.size + 1 := by simp
    rw [e] at this
    exact this
  clear hbn
  have ecast : ((n + 1 : Nat) : Int) = (n : Int) + 1 := by simp
  rw [ecast] at B2 P2 Q2
  have S3 : CrnSt 2 c g bn bf bs bk lo F (n + 1) (((w.alloc (.cells #[.int .i64 gx, .int .i64 gy] 44)).setCell ⟨bn, 0, none⟩ (.int .i64 ((n : Int) + 1))).alloc (.cells #[.int .i64 0, .int .i64 0, .int .i64 0, .int .i64 0, .int .i64 0, .int .i64 0, .int .i64 0, .int .i64 0] 65)) := S2
  clear S S1 S2 ecast
  show Calls Try.prog 47 #[.int .i64 0, .int .i64 0, .int .i64 2, .agg #[.int .i64 gx, .int .i64 gy], .pointer (some ⟨bn, 0, none⟩), .pointer (some ⟨bf, 0, none⟩), .pointer (some ⟨bs, 0, none⟩), .pointer (some ⟨bk, 0, none⟩)] w _
  go_enter Try.func47, Try.ntmps47
  go_wp2
  generalize ((w.alloc (.cells #[.int .i64 gx, .int .i64 gy] 44)).setCell ⟨bn, 0, none⟩ (.int .i64 ((n : Int) + 1))).alloc (.cells #[.int .i64 0, .int .i64 0, .int .i64 0, .int .i64 0, .int .i64 0, .int .i64 0, .int .i64 0, .int .i64 0] 65) = w2 at *
  go_loopw [28] (fun i wr => ∃ q : Nat, q ≤ 4 ∧ i = .int .i64 q ∧ Lp1 2 0 0 1 c g bn bf bs bk lo gx gy n F w q wr) (fun i _ => 4 - (intOf i).toNat)
  case atStart => exact ⟨0, by omega, rfl, S3, P2, Q2, B2, HGW.out⟩
  case round =>
    clear S3 P2 Q2 B2
    obtain ⟨q, hq, rfl, H⟩ := hrel
    rcases (show q = 0 ∨ q = 1 ∨ q = 2 ∨ q = 3 ∨ q = 4 from by omega) with rfl | rfl | rfl | rfl | rfl
    · obtain ⟨⟨ov, k1⟩, k2⟩ := cells_of H.st.row H.st.len.out (j := 0) (by decide)
      have k3 := H.st.fl
      have k4 := H.st.sd
      have k5 := cell_of_row _ _ 0 _ _ _ H.box
      have k6 := cell_of_row _ _ 1 _ _ _ H.box
      have k7 := frozen_of_row _ _ 0 _ _ H.gaps
      have k8 := frozen_of_row _ _ 1 _ _ H.gaps
      obtain ⟨v9, k9⟩ : ∃ v, wr.cell? ⟨w.heap.size + 1, 0, none⟩ = some v := ⟨_, cell_of_row _ _ 0 _ _ _ H.gaps⟩
      obtain ⟨v10, k10⟩ : ∃ v, wr.cell? ⟨w.heap.size + 1, 1, none⟩ = some v := ⟨_, cell_of_row _ _ 1 _ _ _ H.gaps⟩
      have g2 := heap_ltC H.gaps
      have g3 := heap_ltC H.box
      have g4 : g < wr.heap.size := by have := H.lt; omega
      obtain ⟨g5, g6, g7, g8⟩ := H.st.lt
      have g9 : ¬ g = w.heap.size + 1 := by have := H.lt.1; omega
      have g10 : ¬ g = w.heap.size := by have := H.lt.1; omega
      have g11 : ¬ w.heap.size + 1 = g := by have := H.lt.1; omega
      obtain ⟨tx, hx⟩ : ∃ b, decide ((1 : Int) ≤ (gx : Int)) = b := ⟨_, rfl⟩
      obtain ⟨ty, hy⟩ : ∃ b, decide ((1 : Int) ≤ (gy : Int)) = b := ⟨_, rfl⟩
      cases tx <;> cases ty
      all_goals
        go_wp2
        first
          | exact ⟨⟨1, by omega, rfl, H.put (by omega) (by simp at hx hy; unfold crnIn; simp; omega) _⟩, by simp [intOf]⟩
          | exact ⟨⟨1, by omega, rfl, H.keep (by omega) (by simp at hx hy; unfold crnIn; simp; omega) _⟩, by simp [intOf]⟩
    · obtain ⟨⟨ov, k1⟩, k2⟩ := cells_of H.st.row H.st.len.out (j := 1) (by decide)
      have k3 := H.st.fl
      have k4 := H.st.sd
      have k5 := cell_of_row _ _ 0 _ _ _ H.box
      have k6 := cell_of_row _ _ 1 _ _ _ H.box
      have k7 := frozen_of_row _ _ 2 _ _ H.gaps
      have k8 := frozen_of_row _ _ 3 _ _ H.gaps
      obtain ⟨v9, k9⟩ : ∃ v, wr.cell? ⟨w.heap.size + 1, 2, none⟩ = some v := ⟨_, cell_of_row _ _ 2 _ _ _ H.gaps⟩
      obtain ⟨v10, k10⟩ : ∃ v, wr.cell? ⟨w.heap.size + 1, 3, none⟩ = some v := ⟨_, cell_of_row _ _ 3 _ _ _ H.gaps⟩
      have g2 := heap_ltC H.gaps
      have g3 := heap_ltC H.box
      have g4 : g < wr.heap.size := by have := H.lt; omega
      obtain ⟨g5, g6, g7, g8⟩ := H.st.lt
      have g9 : ¬ g = w.heap.size + 1 := by have := H.lt.1; omega
      have g10 : ¬ g = w.heap.size := by have := H.lt.1; omega
      have g11 : ¬ w.heap.size + 1 = g := by have := H.lt.1; omega
      obtain ⟨tx, hx⟩ : ∃ b, decide ((1 : Int) ≤ (gx : Int)) = b := ⟨_, rfl⟩
      obtain ⟨ty, hy⟩ : ∃ b, decide ((1 : Int) ≤ (gy : Int)) = b := ⟨_, rfl⟩
      cases tx <;> cases ty
      all_goals
        go_wp2
        first
          | exact ⟨⟨2, by omega, rfl, H.put (by omega) (by simp at hx hy; unfold crnIn; simp; omega) _⟩, by simp [intOf]⟩
          | exact ⟨⟨2, by omega, rfl, H.keep (by omega) (by simp at hx hy; unfold crnIn; simp; omega) _⟩, by simp [intOf]⟩
    · obtain ⟨⟨ov, k1⟩, k2⟩ := cells_of H.st.row H.st.len.out (j := 2) (by decide)
      have k3 := H.st.fl
      have k4 := H.st.sd
      have k5 := cell_of_row _ _ 0 _ _ _ H.box
      have k6 := cell_of_row _ _ 1 _ _ _ H.box
      have k7 := frozen_of_row _ _ 4 _ _ H.gaps
      have k8 := frozen_of_row _ _ 5 _ _ H.gaps
      obtain ⟨v9, k9⟩ : ∃ v, wr.cell? ⟨w.heap.size + 1, 4, none⟩ = some v := ⟨_, cell_of_row _ _ 4 _ _ _ H.gaps⟩
      obtain ⟨v10, k10⟩ : ∃ v, wr.cell? ⟨w.heap.size + 1, 5, none⟩ = some v := ⟨_, cell_of_row _ _ 5 _ _ _ H.gaps⟩
      have g2 := heap_ltC H.gaps
      have g3 := heap_ltC H.box
      have g4 : g < wr.heap.size := by have := H.lt; omega
      obtain ⟨g5, g6, g7, g8⟩ := H.st.lt
      have g9 : ¬ g = w.heap.size + 1 := by have := H.lt.1; omega
      have g10 : ¬ g = w.heap.size := by have := H.lt.1; omega
      have g11 : ¬ w.heap.size + 1 = g := by have := H.lt.1; omega
      obtain ⟨tx, hx⟩ : ∃ b, decide ((1 : Int) ≤ (gx : Int)) = b := ⟨_, rfl⟩
      obtain ⟨ty, hy⟩ : ∃ b, decide ((1 : Int) ≤ (gy : Int)) = b := ⟨_, rfl⟩
      cases tx <;> cases ty
      all_goals
        go_wp2
        first
          | exact ⟨⟨3, by omega, rfl, H.put (by omega) (by simp at hx hy; unfold crnIn; simp; omega) _⟩, by simp [intOf]⟩
          | exact ⟨⟨3, by omega, rfl, H.keep (by omega) (by simp at hx hy; unfold crnIn; simp; omega) _⟩, by simp [intOf]⟩
    · obtain ⟨⟨ov, k1⟩, k2⟩ := cells_of H.st.row H.st.len.out (j := 3) (by decide)
      have k3 := H.st.fl
      have k4 := H.st.sd
      have k5 := cell_of_row _ _ 0 _ _ _ H.box
      have k6 := cell_of_row _ _ 1 _ _ _ H.box
      have k7 := frozen_of_row _ _ 6 _ _ H.gaps
      have k8 := frozen_of_row _ _ 7 _ _ H.gaps
      obtain ⟨v9, k9⟩ : ∃ v, wr.cell? ⟨w.heap.size + 1, 6, none⟩ = some v := ⟨_, cell_of_row _ _ 6 _ _ _ H.gaps⟩
      obtain ⟨v10, k10⟩ : ∃ v, wr.cell? ⟨w.heap.size + 1, 7, none⟩ = some v := ⟨_, cell_of_row _ _ 7 _ _ _ H.gaps⟩
      have g2 := heap_ltC H.gaps
      have g3 := heap_ltC H.box
      have g4 : g < wr.heap.size := by have := H.lt; omega
      obtain ⟨g5, g6, g7, g8⟩ := H.st.lt
      have g9 : ¬ g = w.heap.size + 1 := by have := H.lt.1; omega
      have g10 : ¬ g = w.heap.size := by have := H.lt.1; omega
      have g11 : ¬ w.heap.size + 1 = g := by have := H.lt.1; omega
      obtain ⟨tx, hx⟩ : ∃ b, decide ((1 : Int) ≤ (gx : Int)) = b := ⟨_, rfl⟩
      obtain ⟨ty, hy⟩ : ∃ b, decide ((1 : Int) ≤ (gy : Int)) = b := ⟨_, rfl⟩
      cases tx <;> cases ty
      all_goals
        go_wp2
        first
          | exact ⟨⟨4, by omega, rfl, H.put (by omega) (by simp at hx hy; unfold crnIn; simp; omega) _⟩, by simp [intOf]⟩
          | exact ⟨⟨4, by omega, rfl, H.keep (by omega) (by simp at hx hy; unfold crnIn; simp; omega) _⟩, by simp [intOf]⟩
    · have hx0 := crnX_lt (side := 2) (x := 0) (y := 0) (h := 1) (q := 0) h3 h4 (by decide) (by decide)
      have hx1 := crnX_lt (side := 2) (x := 0) (y := 0) (h := 1) (q := 1) h3 h4 (by decide) (by decide)
      have hx2 := crnX_lt (side := 2) (x := 0) (y := 0) (h := 1) (q := 2) h3 h4 (by decide) (by decide)
      have hx3 := crnX_lt (side := 2) (x := 0) (y := 0) (h := 1) (q := 3) h3 h4 (by decide) (by decide)
      obtain ⟨hst, -, hgap, htwo, hlt⟩ := H
      have j0 := cell_of_row _ _ 0 _ _ _ hgap
      have j1 := cell_of_row _ _ 1 _ _ _ hgap
      have j2 := cell_of_row _ _ 2 _ _ _ hgap
      have j3 := cell_of_row _ _ 3 _ _ _ hgap
      have j4 := cell_of_row _ _ 4 _ _ _ hgap
      have j5 := cell_of_row _ _ 5 _ _ _ hgap
      have j6 := cell_of_row _ _ 6 _ _ _ hgap
      have j7 := cell_of_row _ _ 7 _ _ _ hgap
      obtain ⟨p0, hp0⟩ : ∃ p, crnX 0 0 1 gx gy 0 = p := ⟨_, rfl⟩
      rw [hp0] at hx0
      have j0' : wr.cell? ⟨w.heap.size + 1, 0, none⟩ = some (.int .i64 (p0.1 : Nat)) := by rw [← hp0]; exact j0
      have j1' : wr.cell? ⟨w.heap.size + 1, 1, none⟩ = some (.int .i64 (p0.2 : Nat)) := by rw [← hp0]; exact j1
      obtain ⟨a0, b0⟩ := p0
      have HG0 := Lib.hid hp0
      have C0 := Lib.hid (fun (z : World) (F' : List Int) (m : Nat) (S : CrnSt 2 c g bn bf bs bk lo F' m z) (hm : m + 5 ^ 0 ≤ 1000) =>
        (show Calls Try.prog 47 #[.int .i64 0, .int .i64 0, .int .i64 1, .agg #[.int .i64 a0, .int .i64 b0], .pointer (some ⟨bn, 0, none⟩), .pointer (some ⟨bf, 0, none⟩), .pointer (some ⟨bs, 0, none⟩), .pointer (some ⟨bk, 0, none⟩)] z _ from (crn_zero 2 c g bn bf bs bk lo 0 0) z F' m a0 b0 S hx0.1 hx0.2 hm))
      clear hp0 j0 j1 hx0
      obtain ⟨p1, hp1⟩ : ∃ p, crnX 0 0 1 gx gy 1 = p := ⟨_, rfl⟩
      rw [hp1] at hx1
      have j2' : wr.cell? ⟨w.heap.size + 1, 2, none⟩ = some (.int .i64 (p1.1 : Nat)) := by rw [← hp1]; exact j2
      have j3' : wr.cell? ⟨w.heap.size + 1, 3, none⟩ = some (.int .i64 (p1.2 : Nat)) := by rw [← hp1]; exact j3
      obtain ⟨a1, b1⟩ := p1
      have HG1 := Lib.hid hp1
      have C1 := Lib.hid (fun (z : World) (F' : List Int) (m : Nat) (S : CrnSt 2 c g bn bf bs bk lo F' m z) (hm : m + 5 ^ 0 ≤ 1000) =>
        (show Calls Try.prog 47 #[.int .i64 1, .int .i64 0, .int .i64 1, .agg #[.int .i64 a1, .int .i64 b1], .pointer (some ⟨bn, 0, none⟩), .pointer (some ⟨bf, 0, none⟩), .pointer (some ⟨bs, 0, none⟩), .pointer (some ⟨bk, 0, none⟩)] z _ from (crn_zero 2 c g bn bf bs bk lo 1 0) z F' m a1 b1 S hx1.1 hx1.2 hm))
      clear hp1 j2 j3 hx1
      obtain ⟨p2, hp2⟩ : ∃ p, crnX 0 0 1 gx gy 2 = p := ⟨_, rfl⟩
      rw [hp2] at hx2
      have j4' : wr.cell? ⟨w.heap.size + 1, 4, none⟩ = some (.int .i64 (p2.1 : Nat)) := by rw [← hp2]; exact j4
      have j5' : wr.cell? ⟨w.heap.size + 1, 5, none⟩ = some (.int .i64 (p2.2 : Nat)) := by rw [← hp2]; exact j5
      obtain ⟨a2, b2⟩ := p2
      have HG2 := Lib.hid hp2
      have C2 := Lib.hid (fun (z : World) (F' : List Int) (m : Nat) (S : CrnSt 2 c g bn bf bs bk lo F' m z) (hm : m + 5 ^ 0 ≤ 1000) =>
        (show Calls Try.prog 47 #[.int .i64 0, .int .i64 1, .int .i64 1, .agg #[.int .i64 a2, .int .i64 b2], .pointer (some ⟨bn, 0, none⟩), .pointer (some ⟨bf, 0, none⟩), .pointer (some ⟨bs, 0, none⟩), .pointer (some ⟨bk, 0, none⟩)] z _ from (crn_zero 2 c g bn bf bs bk lo 0 1) z F' m a2 b2 S hx2.1 hx2.2 hm))
      clear hp2 j4 j5 hx2
      obtain ⟨p3, hp3⟩ : ∃ p, crnX 0 0 1 gx gy 3 = p := ⟨_, rfl⟩
      rw [hp3] at hx3
      have j6' : wr.cell? ⟨w.heap.size + 1, 6, none⟩ = some (.int .i64 (p3.1 : Nat)) := by rw [← hp3]; exact j6
      have j7' : wr.cell? ⟨w.heap.size + 1, 7, none⟩ = some (.int .i64 (p3.2 : Nat)) := by rw [← hp3]; exact j7
      obtain ⟨a3, b3⟩ := p3
      have HG3 := Lib.hid hp3
      have C3 := Lib.hid (fun (z : World) (F' : List Int) (m : Nat) (S : CrnSt 2 c g bn bf bs bk lo F' m z) (hm : m + 5 ^ 0 ≤ 1000) =>
        (show Calls Try.prog 47 #[.int .i64 1, .int .i64 1, .int .i64 1, .agg #[.int .i64 a3, .int .i64 b3], .pointer (some ⟨bn, 0, none⟩), .pointer (some ⟨bf, 0, none⟩), .pointer (some ⟨bs, 0, none⟩), .pointer (some ⟨bk, 0, none⟩)] z _ from (crn_zero 2 c g bn bf bs bk lo 1 1) z F' m a3 b3 S hx3.1 hx3.2 hm))
      clear hp3 j6 j7 hx3
      simp only at j0' j1' j2' j3' j4' j5' j6' j7'
      have hL2 : Lp2 2 0 0 0 c g bn bf bs bk lo gx gy (crnL 2 0 0 1 gx gy n F 4, (n : Int) + 1) (n + 1) w 0 wr := ⟨n + 1, rfl, by omega, hst, htwo⟩
      clear hst hgap htwo c0 f0
      rw [show ((4 : Nat) : Int) = 4 from rfl]
      go_wp2
      go_loopw [86] (fun i w6 => ∃ q : Nat, q ≤ 4 ∧ i = .int .i64 q ∧ Lp2 2 0 0 0 c g bn bf bs bk lo gx gy (crnL 2 0 0 1 gx gy n F 4, (n : Int) + 1) (n + 1) w q w6) (fun i _ => 4 - (intOf i).toNat)
      case atStart => exact ⟨0, by omega, rfl, hL2⟩
      case round =>
      clear hL2 j0' j1' j2' j3' j4' j5' j6' j7'
      obtain ⟨q, hq, rfl, H2⟩ := hrel
      have z1 : (5 : Nat) ^ 1 = 5 * 5 ^ 0 := by decide
      have z2 : 1 ≤ (5 : Nat) ^ 0 := by decide
      have z3 : (5 : Nat) ^ 0 = 1 := by decide
      rw [z3] at z1 z2 h6
      rcases (show q = 0 ∨ q = 1 ∨ q = 2 ∨ q = 3 ∨ q = 4 from by omega) with rfl | rfl | rfl | rfl | rfl
      · obtain ⟨m, hm, hle, S3, B3⟩ := H2
        have hle' : m + 5 ^ 0 ≤ 1000 := by omega
        have k1 := S3.wk
        have S4 := S3.two (bl_alloc (Below.refl _ _) (.cells #[.int .i64 a0, .int .i64 b0] 44))
        have B4 := B3.alloc (.cells #[.int .i64 a0, .int .i64 b0] 44)
        have iq : ∀ z, (Instr.index 65 (.agg #[.int .i64 a0, .int .i64 b0, .int .i64 a1, .int .i64 b1, .int .i64 a2, .int .i64 b2, .int .i64 a3, .int .i64 b3]) (.int .i64 0)).run Try.prog z = .ok (.agg #[.int .i64 a0, .int .i64 b0]) z := fun _ => by kernel_rfl
        have k2 := S3.lt.2.2.2
        go_wp2_with fail
        refine (C0.out _ _ _ S4 hle').mono ?_
        rintro e w5 ⟨rfl, hpost⟩
        go_wp2_with fail
        go_roundw
        case rel => exact ⟨1, by omega, rfl, Lp2.next (X := 0) (Y := 0) rfl rfl HG0 hm hle B4 hpost⟩
        case measure => simp [intOf]
      · obtain ⟨m, hm, hle, S3, B3⟩ := H2
        have hle' : m + 5 ^ 0 ≤ 1000 := by omega
        have k1 := S3.wk
        have S4 := S3.two (bl_alloc (Below.refl _ _) (.cells #[.int .i64 a1, .int .i64 b1] 44))
        have B4 := B3.alloc (.cells #[.int .i64 a1, .int .i64 b1] 44)
        have iq : ∀ z, (Instr.index 65 (.agg #[.int .i64 a0, .int .i64 b0, .int .i64 a1, .int .i64 b1, .int .i64 a2, .int .i64 b2, .int .i64 a3, .int .i64 b3]) (.int .i64 1)).run Try.prog z = .ok (.agg #[.int .i64 a1, .int .i64 b1]) z := fun _ => by kernel_rfl
        have k2 := S3.lt.2.2.2
        go_wp2_with fail
        refine (C1.out _ _ _ S4 hle').mono ?_
        rintro e w5 ⟨rfl, hpost⟩
        go_wp2_with fail
        go_roundw
        case rel => exact ⟨2, by omega, rfl, Lp2.next (X := 1) (Y := 0) rfl rfl HG1 hm hle B4 hpost⟩
        case measure => simp [intOf]
      · obtain ⟨m, hm, hle, S3, B3⟩ := H2
        have hle' : m + 5 ^ 0 ≤ 1000 := by omega
        have k1 := S3.wk
        have S4 := S3.two (bl_alloc (Below.refl _ _) (.cells #[.int .i64 a2, .int .i64 b2] 44))
        have B4 := B3.alloc (.cells #[.int .i64 a2, .int .i64 b2] 44)
        have iq : ∀ z, (Instr.index 65 (.agg #[.int .i64 a0, .int .i64 b0, .int .i64 a1, .int .i64 b1, .int .i64 a2, .int .i64 b2, .int .i64 a3, .int .i64 b3]) (.int .i64 2)).run Try.prog z = .ok (.agg #[.int .i64 a2, .int .i64 b2]) z := fun _ => by kernel_rfl
        have k2 := S3.lt.2.2.2
        go_wp2_with fail
        refine (C2.out _ _ _ S4 hle').mono ?_
        rintro e w5 ⟨rfl, hpost⟩
        go_wp2_with fail
        go_roundw
        case rel => exact ⟨3, by omega, rfl, Lp2.next (X := 0) (Y := 1) rfl rfl HG2 hm hle B4 hpost⟩
        case measure => simp [intOf]
      · obtain ⟨m, hm, hle, S3, B3⟩ := H2
        have hle' : m + 5 ^ 0 ≤ 1000 := by omega
        have k1 := S3.wk
        have S4 := S3.two (bl_alloc (Below.refl _ _) (.cells #[.int .i64 a3, .int .i64 b3] 44))
        have B4 := B3.alloc (.cells #[.int .i64 a3, .int .i64 b3] 44)
        have iq : ∀ z, (Instr.index 65 (.agg #[.int .i64 a0, .int .i64 b0, .int .i64 a1, .int .i64 b1, .int .i64 a2, .int .i64 b2, .int .i64 a3, .int .i64 b3]) (.int .i64 3)).run Try.prog z = .ok (.agg #[.int .i64 a3, .int .i64 b3]) z := fun _ => by kernel_rfl
        have k2 := S3.lt.2.2.2
        go_wp2_with fail
        refine (C3.out _ _ _ S4 hle').mono ?_
        rintro e w5 ⟨rfl, hpost⟩
        go_wp2_with fail
        go_roundw
        case rel => exact ⟨4, by omega, rfl, Lp2.next (X := 1) (Y := 1) rfl rfl HG3 hm hle B4 hpost⟩
        case measure => simp [intOf]
      · obtain ⟨m, hm, hle, S3, B3⟩ := H2
        go_wp2
        go_end0
        exact ⟨rfl, ⟨m, rfl, by omega, S3⟩, B3⟩
set_option maxRecDepth 100000 in
set_option maxHeartbeats 4000000 in
theorem crn_4_1_0_0 (c g bn bf bs bk lo : Nat) : CrnOk 4 c g bn bf bs bk lo 1 0 0 := by
  intro w F n gx gy S h3 h4 h5
  have h6 : n + 1 + 4 * 5 ^ 0 ≤ 1000 := by
    have : (5 : Nat) ^ 1 = 5 * 5 ^ 0 := by decide
    have : 1 ≤ 5 ^ 0 := by decide
    omega
  rw [crnI_eq]
  have S1 := S.two (bl_alloc (Below.refl w.heap.size w) (.cells #[.int .i64 gx, .int .i64 gy] 44))
  have c0 := cell_of_row _ _ 0 _ _ _ S1.nx
  have f0 := frozen_of_row _ _ 0 _ _ S1.nx
  have hbn : bn < w.heap.size := heap_ltC S.nx
  have HGW : Hid (g < w.heap.size ∧ bn < w.heap.size ∧ bs < w.heap.size ∧ bf < w.heap.size ∧ bk < w.heap.size) := by
    obtain ⟨⟨ov, k1⟩, -⟩ := cells_of S.row S.len.out (j := 0) (by decide)
    exact ⟨by have := World.block_lt_of_cell? w _ k1; simpa using this, hbn, S.lt.1, S.lt.2.1, S.lt.2.2.2⟩
  have S2 := (S1.inc (n + 1)).two (bl_alloc (Below.refl _ _) (.cells #[.int .i64 0, .int .i64 0, .int .i64 0, .int .i64 0, .int .i64 0, .int .i64 0, .int .i64 0, .int .i64 0] 65))
  have B2 : Two g bn w (((w.alloc (.cells #[.int .i64 gx, .int .i64 gy] 44)).setCell ⟨bn, 0, none⟩ (.int .i64 ((n + 1 : Nat) : Int))).alloc (.cells #[.int .i64 0, .int .i64 0, .int .i64 0, .int .i64 0, .int .i64 0, .int .i64 0, .int .i64 0, .int .i64 0] 65)) :=
    (((Two.refl g bn w).alloc _).setB 0 _).alloc _
  have P2 : (((w.alloc (.cells #[.int .i64 gx, .int .i64 gy] 44)).setCell ⟨bn, 0, none⟩ (.int .i64 ((n + 1 : Nat) : Int))).alloc (.cells #[.int .i64 0, .int .i64 0, .int .i64 0, .int .i64 0, .int .i64 0, .int .i64 0, .int .i64 0, .int .i64 0] 65)).heap[w.heap.size]? = some (.cells #[.int .i64 gx, .int .i64 gy] 44 (0, 0)) := by
    rw [(bl_alloc (Below.refl _ _) _).block w.heap.size (by simp), Below.heap_setCell _ _ _ _ (by simp; omega)]
    exact heap_alloc_new w _
  have Q2 : (((w.alloc (.cells #[.int .i64 gx, .int .i64 gy] 44)).setCell ⟨bn, 0, none⟩ (.int .i64 ((n + 1 : Nat) : Int))).alloc (.cells #[.int .i64 0, .int .i64 0, .int .i64 0, .int .i64 0, .int .i64 0, .int .i64 0, .int .i64 0, .int .i64 0] 65)).heap[w.heap.size + 1]? = some (.cells (gapA (crnX 0 0 1 gx gy) 0) 65 (0, 0)) := by
    have := heap_alloc_new ((w.alloc (.cells #[.int .i64 gx, .int .i64 gy] 44)).setCell ⟨bn, 0, none⟩ (.int .i64 ((n + 1 : Nat) : Int))) (.cells #[.int .i64 0, .int .i64 0, .int .i64 0, .int .i64 0, .int .i64 0, .int .i64 0, .int .i64 0, .int .i64 0] 65)
    have e : ((w.alloc (.cells #[.int .i64 gx, .int .i64 gy] 44)).setCell ⟨bn, 0, none⟩ (.int .i64 ((n + 1 : Nat) : Int))).heap.size = w.heap.size + 1 := by simp
    rw [e] at this
    exact this
  clear hbn
  have ecast : ((n + 1 : Nat) : Int) = (n : Int) + 1 := by simp
  rw [ecast] at B2 P2 Q2
  have S3 : CrnSt 4 c g bn bf bs bk lo F (n + 1) (((w.alloc (.cells #[.int .i64 gx, .int .i64 gy] 44)).setCell ⟨bn, 0, none⟩ (.int .i64 ((n : Int) + 1))).alloc (.cells #[.int .i64 0, .int .i64 0, .int .i64 0, .int .i64 0, .int .i64 0, .int .i64 0, .int .i64 0, .int .i64 0] 65)) := S2
  clear S S1 S2 ecast
  show Calls Try.prog 47 #[.int .i64 0, .int .i64 0, .int .i64 2, .agg #[.int .i64 gx, .int .i64 gy], .pointer (some ⟨bn, 0, none⟩), .pointer (some ⟨bf, 0, none⟩), .pointer (some ⟨bs, 0, none⟩), .pointer (some ⟨bk, 0, none⟩)] w _
  go_enter Try.func47, Try.ntmps47
  go_wp2
  generalize ((w.alloc (.cells #[.int .i64 gx, .int .i64 gy] 44)).setCell ⟨bn, 0, none⟩ (.int .i64 ((n : Int) + 1))).alloc (.cells #[.int .i64 0, .int .i64 0, .int .i64 0, .int .i64 0, .int .i64 0, .int .i64 0, .int .i64 0, .int .i64 0] 65) = w2 at *
  go_loopw [28] (fun i wr => ∃ q : Nat, q ≤ 4 ∧ i = .int .i64 q ∧ Lp1 4 0 0 1 c g bn bf bs bk lo gx gy n F w q wr) (fun i _ => 4 - (intOf i).toNat)
  case atStart => exact ⟨0, by omega, rfl, S3, P2, Q2, B2, HGW.out⟩
  case round =>
    clear S3 P2 Q2 B2
    obtain ⟨q, hq, rfl, H⟩ := hrel
    rcases (show q = 0 ∨ q = 1 ∨ q = 2 ∨ q = 3 ∨ q = 4 from by omega) with rfl | rfl | rfl | rfl | rfl
    · obtain ⟨⟨ov, k1⟩, k2⟩ := cells_of H.st.row H.st.len.out (j := 0) (by decide)
      have k3 := H.st.fl
      have k4 := H.st.sd
      have k5 := cell_of_row _ _ 0 _ _ _ H.box
      have k6 := cell_of_row _ _ 1 _ _ _ H.box
      have k7 := frozen_of_row _ _ 0 _ _ H.gaps
      have k8 := frozen_of_row _ _ 1 _ _ H.gaps
      obtain ⟨v9, k9⟩ : ∃ v, wr.cell? ⟨w.heap.size + 1, 0, none⟩ = some v := ⟨_, cell_of_row _ _ 0 _ _ _ H.gaps⟩
      obtain ⟨v10, k10⟩ : ∃ v, wr.cell? ⟨w.heap.size + 1, 1, none⟩ = some v := ⟨_, cell_of_row _ _ 1 _ _ _ H.gaps⟩
      have g2 := heap_ltC H.gaps
      have g3 := heap_ltC H.box
      have g4 : g < wr.heap.size := by have := H.lt; omega
      obtain ⟨g5, g6, g7, g8⟩ := H.st.lt
      have g9 : ¬ g = w.heap.size + 1 := by have := H.lt.1; omega
      have g10 : ¬ g = w.heap.size := by have := H.lt.1; omega
      have g11 : ¬ w.heap.size + 1 = g := by have := H.lt.1; omega
      obtain ⟨tx, hx⟩ : ∃ b, decide ((1 : Int) ≤ (gx : Int)) = b := ⟨_, rfl⟩
      obtain ⟨ty, hy⟩ : ∃ b, decide ((1 : Int) ≤ (gy : Int)) = b := ⟨_, rfl⟩
      cases tx <;> cases ty
      all_goals
        go_wp2
        first
          | exact ⟨⟨1, by omega, rfl, H.put (by omega) (by simp at hx hy; unfold crnIn; simp; omega) _⟩, by simp [intOf]⟩
          | exact ⟨⟨1, by omega, rfl, H.keep (by omega) (by simp at hx hy; unfold crnIn; simp; omega) _⟩, by simp [intOf]⟩
    · obtain ⟨⟨ov, k1⟩, k2⟩ := cells_of H.st.row H.st.len.out (j := 1) (by decide)
      have k3 := H.st.fl
      have k4 := H.st.sd
      have k5 := cell_of_row _ _ 0 _ _ _ H.box
      have k6 := cell_of_row _ _ 1 _ _ _ H.box
      have k7 := frozen_of_row _ _ 2 _ _ H.gaps
      have k8 := frozen_of_row _ _ 3 _ _ H.gaps
      obtain ⟨v9, k9⟩ : ∃ v, wr.cell? ⟨w.heap.size + 1, 2, none⟩ = some v := ⟨_, cell_of_row _ _ 2 _ _ _ H.gaps⟩
      obtain ⟨v10, k10⟩ : ∃ v, wr.cell? ⟨w.heap.size + 1, 3, none⟩ = some v := ⟨_, cell_of_row _ _ 3 _ _ _ H.gaps⟩
      have g2 := heap_ltC H.gaps
      have g3 := heap_ltC H.box
      have g4 : g < wr.heap.size := by have := H.lt; omega
      obtain ⟨g5, g6, g7, g8⟩ := H.st.lt
      have g9 : ¬ g = w.heap.size + 1 := by have := H.lt.1; omega
      have g10 : ¬ g = w.heap.size := by have := H.lt.1; omega
      have g11 : ¬ w.heap.size + 1 = g := by have := H.lt.1; omega
      obtain ⟨tx, hx⟩ : ∃ b, decide ((1 : Int) ≤ (gx : Int)) = b := ⟨_, rfl⟩
      obtain ⟨ty, hy⟩ : ∃ b, decide ((1 : Int) ≤ (gy : Int)) = b := ⟨_, rfl⟩
      cases tx <;> cases ty
      all_goals
        go_wp2
        first
          | exact ⟨⟨2, by omega, rfl, H.put (by omega) (by simp at hx hy; unfold crnIn; simp; omega) _⟩, by simp [intOf]⟩
          | exact ⟨⟨2, by omega, rfl, H.keep (by omega) (by simp at hx hy; unfold crnIn; simp; omega) _⟩, by simp [intOf]⟩
    · obtain ⟨⟨ov, k1⟩, k2⟩ := cells_of H.st.row H.st.len.out (j := 4) (by decide)
      have k3 := H.st.fl
      have k4 := H.st.sd
      have k5 := cell_of_row _ _ 0 _ _ _ H.box
      have k6 := cell_of_row _ _ 1 _ _ _ H.box
      have k7 := frozen_of_row _ _ 4 _ _ H.gaps
      have k8 := frozen_of_row _ _ 5 _ _ H.gaps
      obtain ⟨v9, k9⟩ : ∃ v, wr.cell? ⟨w.heap.size + 1, 4, none⟩ = some v := ⟨_, cell_of_row _ _ 4 _ _ _ H.gaps⟩
      obtain ⟨v10, k10⟩ : ∃ v, wr.cell? ⟨w.heap.size + 1, 5, none⟩ = some v := ⟨_, cell_of_row _ _ 5 _ _ _ H.gaps⟩
      have g2 := heap_ltC H.gaps
      have g3 := heap_ltC H.box
      have g4 : g < wr.heap.size := by have := H.lt; omega
      obtain ⟨g5, g6, g7, g8⟩ := H.st.lt
      have g9 : ¬ g = w.heap.size + 1 := by have := H.lt.1; omega
      have g10 : ¬ g = w.heap.size := by have := H.lt.1; omega
      have g11 : ¬ w.heap.size + 1 = g := by have := H.lt.1; omega
      obtain ⟨tx, hx⟩ : ∃ b, decide ((1 : Int) ≤ (gx : Int)) = b := ⟨_, rfl⟩
      obtain ⟨ty, hy⟩ : ∃ b, decide ((1 : Int) ≤ (gy : Int)) = b := ⟨_, rfl⟩
      cases tx <;> cases ty
      all_goals
        go_wp2
        first
          | exact ⟨⟨3, by omega, rfl, H.put (by omega) (by simp at hx hy; unfold crnIn; simp; omega) _⟩, by simp [intOf]⟩
          | exact ⟨⟨3, by omega, rfl, H.keep (by omega) (by simp at hx hy; unfold crnIn; simp; omega) _⟩, by simp [intOf]⟩
    · obtain ⟨⟨ov, k1⟩, k2⟩ := cells_of H.st.row H.st.len.out (j := 5) (by decide)
      have k3 := H.st.fl
      have k4 := H.st.sd
      have k5 := cell_of_row _ _ 0 _ _ _ H.box
      have k6 := cell_of_row _ _ 1 _ _ _ H.box
      have k7 := frozen_of_row _ _ 6 _ _ H.gaps
      have k8 := frozen_of_row _ _ 7 _ _ H.gaps
      obtain ⟨v9, k9⟩ : ∃ v, wr.cell? ⟨w.heap.size + 1, 6, none⟩ = some v := ⟨_, cell_of_row _ _ 6 _ _ _ H.gaps⟩
      obtain ⟨v10, k10⟩ : ∃ v, wr.cell? ⟨w.heap.size + 1, 7, none⟩ = some v := ⟨_, cell_of_row _ _ 7 _ _ _ H.gaps⟩
      have g2 := heap_ltC H.gaps
      have g3 := heap_ltC H.box
      have g4 : g < wr.heap.size := by have := H.lt; omega
      obtain ⟨g5, g6, g7, g8⟩ := H.st.lt
      have g9 : ¬ g = w.heap.size + 1 := by have := H.lt.1; omega
      have g10 : ¬ g = w.heap.size := by have := H.lt.1; omega
      have g11 : ¬ w.heap.size + 1 = g := by have := H.lt.1; omega
      obtain ⟨tx, hx⟩ : ∃ b, decide ((1 : Int) ≤ (gx : Int)) = b := ⟨_, rfl⟩
      obtain ⟨ty, hy⟩ : ∃ b, decide ((1 : Int) ≤ (gy : Int)) = b := ⟨_, rfl⟩
      cases tx <;> cases ty
      all_goals
        go_wp2
        first
          | exact ⟨⟨4, by omega, rfl, H.put (by omega) (by simp at hx hy; unfold crnIn; simp; omega) _⟩, by simp [intOf]⟩
          | exact ⟨⟨4, by omega, rfl, H.keep (by omega) (by simp at hx hy; unfold crnIn; simp; omega) _⟩, by simp [intOf]⟩
    · have hx0 := crnX_lt (side := 4) (x := 0) (y := 0) (h := 1) (q := 0) h3 h4 (by decide) (by decide)
      have hx1 := crnX_lt (side := 4) (x := 0) (y := 0) (h := 1) (q := 1) h3 h4 (by decide) (by decide)
      have hx2 := crnX_lt (side := 4) (x := 0) (y := 0) (h := 1) (q := 2) h3 h4 (by decide) (by decide)
      have hx3 := crnX_lt (side := 4) (x := 0) (y := 0) (h := 1) (q := 3) h3 h4 (by decide) (by decide)
      obtain ⟨hst, -, hgap, htwo, hlt⟩ := H
      have j0 := cell_of_row _ _ 0 _ _ _ hgap
      have j1 := cell_of_row _ _ 1 _ _ _ hgap
      have j2 := cell_of_row _ _ 2 _ _ _ hgap
      have j3 := cell_of_row _ _ 3 _ _ _ hgap
      have j4 := cell_of_row _ _ 4 _ _ _ hgap
      have j5 := cell_of_row _ _ 5 _ _ _ hgap
      have j6 := cell_of_row _ _ 6 _ _ _ hgap
      have j7 := cell_of_row _ _ 7 _ _ _ hgap
      obtain ⟨p0, hp0⟩ : ∃ p, crnX 0 0 1 gx gy 0 = p := ⟨_, rfl⟩
      rw [hp0] at hx0
      have j0' : wr.cell? ⟨w.heap.size + 1, 0, none⟩ = some (.int .i64 (p0.1 : Nat)) := by rw [← hp0]; exact j0
      have j1' : wr.cell? ⟨w.heap.size + 1, 1, none⟩ = some (.int .i64 (p0.2 : Nat)) := by rw [← hp0]; exact j1
      obtain ⟨a0, b0⟩ := p0
      have HG0 := Lib.hid hp0
      have C0 := Lib.hid (fun (z : World) (F' : List Int) (m : Nat) (S : CrnSt 4 c g bn bf bs bk lo F' m z) (hm : m + 5 ^ 0 ≤ 1000) =>
        (show Calls Try.prog 47 #[.int .i64 0, .int .i64 0, .int .i64 1, .agg #[.int .i64 a0, .int .i64 b0], .pointer (some ⟨bn, 0, none⟩), .pointer (some ⟨bf, 0, none⟩), .pointer (some ⟨bs, 0, none⟩), .pointer (some ⟨bk, 0, none⟩)] z _ from (crn_zero 4 c g bn bf bs bk lo 0 0) z F' m a0 b0 S hx0.1 hx0.2 hm))
      clear hp0 j0 j1 hx0
      obtain ⟨p1, hp1⟩ : ∃ p, crnX 0 0 1 gx gy 1 = p := ⟨_, rfl⟩
      rw [hp1] at hx1
      have j2' : wr.cell? ⟨w.heap.size + 1, 2, none⟩ = some (.int .i64 (p1.1 : Nat)) := by rw [← hp1]; exact j2
      have j3' : wr.cell? ⟨w.heap.size + 1, 3, none⟩ = some (.int .i64 (p1.2 : Nat)) := by rw [← hp1]; exact j3
      obtain ⟨a1, b1⟩ := p1
      have HG1 := Lib.hid hp1
      have C1 := Lib.hid (fun (z : World) (F' : List Int) (m : Nat) (S : CrnSt 4 c g bn bf bs bk lo F' m z) (hm : m + 5 ^ 0 ≤ 1000) =>
        (show Calls Try.prog 47 #[.int .i64 1, .int .i64 0, .int .i64 1, .agg #[.int .i64 a1, .int .i64 b1], .pointer (some ⟨bn, 0, none⟩), .pointer (some ⟨bf, 0, none⟩), .pointer (some ⟨bs, 0, none⟩), .pointer (some ⟨bk, 0, none⟩)] z _ from (crn_zero 4 c g bn bf bs bk lo 1 0) z F' m a1 b1 S hx1.1 hx1.2 hm))
      clear hp1 j2 j3 hx1
      obtain ⟨p2, hp2⟩ : ∃ p, crnX 0 0 1 gx gy 2 = p := ⟨_, rfl⟩
      rw [hp2] at hx2
      have j4' : wr.cell? ⟨w.heap.size + 1, 4, none⟩ = some (.int .i64 (p2.1 : Nat)) := by rw [← hp2]; exact j4
      have j5' : wr.cell? ⟨w.heap.size + 1, 5, none⟩ = some (.int .i64 (p2.2 : Nat)) := by rw [← hp2]; exact j5
      obtain ⟨a2, b2⟩ := p2
      have HG2 := Lib.hid hp2
      have C2 := Lib.hid (fun (z : World) (F' : List Int) (m : Nat) (S : CrnSt 4 c g bn bf bs bk lo F' m z) (hm : m + 5 ^ 0 ≤ 1000) =>
        (show Calls Try.prog 47 #[.int .i64 0, .int .i64 1, .int .i64 1, .agg #[.int .i64 a2, .int .i64 b2], .pointer (some ⟨bn, 0, none⟩), .pointer (some ⟨bf, 0, none⟩), .pointer (some ⟨bs, 0, none⟩), .pointer (some ⟨bk, 0, none⟩)] z _ from (crn_zero 4 c g bn bf bs bk lo 0 1) z F' m a2 b2 S hx2.1 hx2.2 hm))
      clear hp2 j4 j5 hx2
      obtain ⟨p3, hp3⟩ : ∃ p, crnX 0 0 1 gx gy 3 = p := ⟨_, rfl⟩
      rw [hp3] at hx3
      have j6' : wr.cell? ⟨w.heap.size + 1, 6, none⟩ = some (.int .i64 (p3.1 : Nat)) := by rw [← hp3]; exact j6
      have j7' : wr.cell? ⟨w.heap.size + 1, 7, none⟩ = some (.int .i64 (p3.2 : Nat)) := by rw [← hp3]; exact j7
      obtain ⟨a3, b3⟩ := p3
      have HG3 := Lib.hid hp3
      have C3 := Lib.hid (fun (z : World) (F' : List Int) (m : Nat) (S : CrnSt 4 c g bn bf bs bk lo F' m z) (hm : m + 5 ^ 0 ≤ 1000) =>
        (show Calls Try.prog 47 #[.int .i64 1, .int .i64 1, .int .i64 1, .agg #[.int .i64 a3, .int .i64 b3], .pointer (some ⟨bn, 0, none⟩), .pointer (some ⟨bf, 0, none⟩), .pointer (some ⟨bs, 0, none⟩), .pointer (some ⟨bk, 0, none⟩)] z _ from (crn_zero 4 c g bn bf bs bk lo 1 1) z F' m a3 b3 S hx3.1 hx3.2 hm))
      clear hp3 j6 j7 hx3
      simp only at j0' j1' j2' j3' j4' j5' j6' j7'
      have hL2 : Lp2 4 0 0 0 c g bn bf bs bk lo gx gy (crnL 4 0 0 1 gx gy n F 4, (n : Int) + 1) (n + 1) w 0 wr := ⟨n + 1, rfl, by omega, hst, htwo⟩
      clear hst hgap htwo c0 f0
      rw [show ((4 : Nat) : Int) = 4 from rfl]
      go_wp2
      go_loopw [86] (fun i w6 => ∃ q : Nat, q ≤ 4 ∧ i = .int .i64 q ∧ Lp2 4 0 0 0 c g bn bf bs bk lo gx gy (crnL 4 0 0 1 gx gy n F 4, (n : Int) + 1) (n + 1) w q w6) (fun i _ => 4 - (intOf i).toNat)
      case atStart => exact ⟨0, by omega, rfl, hL2⟩
      case round =>
      clear hL2 j0' j1' j2' j3' j4' j5' j6' j7'
      obtain ⟨q, hq, rfl, H2⟩ := hrel
      have z1 : (5 : Nat) ^ 1 = 5 * 5 ^ 0 := by decide
      have z2 : 1 ≤ (5 : Nat) ^ 0 := by decide
      have z3 : (5 : Nat) ^ 0 = 1 := by decide
      rw [z3] at z1 z2 h6
      rcases (show q = 0 ∨ q = 1 ∨ q = 2 ∨ q = 3 ∨ q = 4 from by omega) with rfl | rfl | rfl | rfl | rfl
      · obtain ⟨m, hm, hle, S3, B3⟩ := H2
        have hle' : m + 5 ^ 0 ≤ 1000 := by omega
        have k1 := S3.wk
        have S4 := S3.two (bl_alloc (Below.refl _ _) (.cells #[.int .i64 a0, .int .i64 b0] 44))
        have B4 := B3.alloc (.cells #[.int .i64 a0, .int .i64 b0] 44)
        have iq : ∀ z, (Instr.index 65 (.agg #[.int .i64 a0, .int .i64 b0, .int .i64 a1, .int .i64 b1, .int .i64 a2, .int .i64 b2, .int .i64 a3, .int .i64 b3]) (.int .i64 0)).run Try.prog z = .ok (.agg #[.int .i64 a0, .int .i64 b0]) z := fun _ => by kernel_rfl
        have k2 := S3.lt.2.2.2
        go_wp2_with fail
        refine (C0.out _ _ _ S4 hle').mono ?_
        rintro e w5 ⟨rfl, hpost⟩
        go_wp2_with fail
        go_roundw
        case rel => exact ⟨1, by omega, rfl, Lp2.next (X := 0) (Y := 0) rfl rfl HG0 hm hle B4 hpost⟩
        case measure => simp [intOf]
      · obtain ⟨m, hm, hle, S3, B3⟩ := H2
        have hle' : m + 5 ^ 0 ≤ 1000 := by omega
        have k1 := S3.wk
        have S4 := S3.two (bl_alloc (Below.refl _ _) (.cells #[.int .i64 a1, .int .i64 b1] 44))
        have B4 := B3.alloc (.cells #[.int .i64 a1, .int .i64 b1] 44)
        have iq : ∀ z, (Instr.index 65 (.agg #[.int .i64 a0, .int .i64 b0, .int .i64 a1, .int .i64 b1, .int .i64 a2, .int .i64 b2, .int .i64 a3, .int .i64 b3]) (.int .i64 1)).run Try.prog z = .ok (.agg #[.int .i64 a1, .int .i64 b1]) z := fun _ => by kernel_rfl
        have k2 := S3.lt.2.2.2
        go_wp2_with fail
        refine (C1.out _ _ _ S4 hle').mono ?_
        rintro e w5 ⟨rfl, hpost⟩
        go_wp2_with fail
        go_roundw
        case rel => exact ⟨2, by omega, rfl, Lp2.next (X := 1) (Y := 0) rfl rfl HG1 hm hle B4 hpost⟩
        case measure => simp [intOf]
      · obtain ⟨m, hm, hle, S3, B3⟩ := H2
        have hle' : m + 5 ^ 0 ≤ 1000 := by omega
        have k1 := S3.wk
        have S4 := S3.two (bl_alloc (Below.refl _ _) (.cells #[.int .i64 a2, .int .i64 b2] 44))
        have B4 := B3.alloc (.cells #[.int .i64 a2, .int .i64 b2] 44)
        have iq : ∀ z, (Instr.index 65 (.agg #[.int .i64 a0, .int .i64 b0, .int .i64 a1, .int .i64 b1, .int .i64 a2, .int .i64 b2, .int .i64 a3, .int .i64 b3]) (.int .i64 2)).run Try.prog z = .ok (.agg #[.int .i64 a2, .int .i64 b2]) z := fun _ => by kernel_rfl
        have k2 := S3.lt.2.2.2
        go_wp2_with fail
        refine (C2.out _ _ _ S4 hle').mono ?_
        rintro e w5 ⟨rfl, hpost⟩
        go_wp2_with fail
        go_roundw
        case rel => exact ⟨3, by omega, rfl, Lp2.next (X := 0) (Y := 1) rfl rfl HG2 hm hle B4 hpost⟩
        case measure => simp [intOf]
      · obtain ⟨m, hm, hle, S3, B3⟩ := H2
        have hle' : m + 5 ^ 0 ≤ 1000 := by omega
        have k1 := S3.wk
        have S4 := S3.two (bl_alloc (Below.refl _ _) (.cells #[.int .i64 a3, .int .i64 b3] 44))
        have B4 := B3.alloc (.cells #[.int .i64 a3, .int .i64 b3] 44)
        have iq : ∀ z, (Instr.index 65 (.agg #[.int .i64 a0, .int .i64 b0, .int .i64 a1, .int .i64 b1, .int .i64 a2, .int .i64 b2, .int .i64 a3, .int .i64 b3]) (.int .i64 3)).run Try.prog z = .ok (.agg #[.int .i64 a3, .int .i64 b3]) z := fun _ => by kernel_rfl
        have k2 := S3.lt.2.2.2
        go_wp2_with fail
        refine (C3.out _ _ _ S4 hle').mono ?_
        rintro e w5 ⟨rfl, hpost⟩
        go_wp2_with fail
        go_roundw
        case rel => exact ⟨4, by omega, rfl, Lp2.next (X := 1) (Y := 1) rfl rfl HG3 hm hle B4 hpost⟩
        case measure => simp [intOf]
      · obtain ⟨m, hm, hle, S3, B3⟩ := H2
        go_wp2
        go_end0
        exact ⟨rfl, ⟨m, rfl, by omega, S3⟩, B3⟩
end Go.Proofs.Ytnignglhefcecaa

/- The closure of the program's CornerFill at the squares side 4, level 1 at 2, 0, side 4, level 1 at 0, 2. -/
namespace Go.Proofs.Ytnignglhefcecaa
open Go.RowKit
set_option maxRecDepth 100000 in
set_option maxHeartbeats 4000000 in
theorem crn_4_1_2_0 (c g bn bf bs bk lo : Nat) : CrnOk 4 c g bn bf bs bk lo 1 2 0 := by
  intro w F n gx gy S h3 h4 h5
  have h6 : n + 1 + 4 * 5 ^ 0 ≤ 1000 := by
    have : (5 : Nat) ^ 1 = 5 * 5 ^ 0 := by decide
    have : 1 ≤ 5 ^ 0 := by decide
    omega
  rw [crnI_eq]
  have S1 := S.two (bl_alloc (Below.refl w.heap.size w) (.cells #[.int .i64 gx, .int .i64 gy] 44))
  have c0 := cell_of_row _ _ 0 _ _ _ S1.nx
  have f0 := frozen_of_row _ _ 0 _ _ S1.nx
  have hbn : bn < w.heap.size := heap_ltC S.nx
  have HGW : Hid (g < w.heap.size ∧ bn < w.heap.size ∧ bs < w.heap.size ∧ bf < w.heap.size ∧ bk < w.heap.size) := by
    obtain ⟨⟨ov, k1⟩, -⟩ := cells_of S.row S.len.out (j := 0) (by decide)
    exact ⟨by have := World.block_lt_of_cell? w _ k1; simpa using this, hbn, S.lt.1, S.lt.2.1, S.lt.2.2.2⟩
  have S2 := (S1.inc (n + 1)).two (bl_alloc (Below.refl _ _) (.cells #[.int .i64 0, .int .i64 0, .int .i64 0, .int .i64 0, .int .i64 0, .int .i64 0, .int .i64 0, .int .i64 0] 65))
  have B2 : Two g bn w (((w.alloc (.cells #[.int .i64 gx, .int .i64 gy] 44)).setCell ⟨bn, 0, none⟩ (.int .i64 ((n + 1 : Nat) : Int))).alloc (.cells #[.int .i64 0, .int .i64 0, .int .i64 0, .int .i64 0, .int .i64 0, .int .i64 0, .int .i64 0, .int .i64 0] 65)) :=
    (((Two.refl g bn w).alloc _).setB 0 _).alloc _
  have P2 : (((w.alloc (.cells #[.int .i64 gx, .int .i64 gy] 44)).setCell ⟨bn, 0, none⟩ (.int .i64 ((n + 1 : Nat) : Int))).alloc (.cells #[.int .i64 0, .int .i64 0, .int .i64 0, .int .i64 0, .int .i64 0, .int .i64 0, .int .i64 0, .int .i64 0] 65)).heap[w.heap.size]? = some (.cells #[.int .i64 gx, .int .i64 gy] 44 (0, 0)) := by
    rw [(bl_alloc (Below.refl _ _) _).block w.heap.size (by simp), Below.heap_setCell _ _ _ _ (by simp; omega)]
    exact heap_alloc_new w _
  have Q2 : (((w.alloc (.cells #[.int .i64 gx, .int .i64 gy] 44)).setCell ⟨bn, 0, none⟩ (.int .i64 ((n + 1 : Nat) : Int))).alloc (.cells #[.int .i64 0, .int .i64 0, .int .i64 0, .int .i64 0, .int .i64 0, .int .i64 0, .int .i64 0, .int .i64 0] 65)).heap[w.heap.size + 1]? = some (.cells (gapA (crnX 2 0 1 gx gy) 0) 65 (0, 0)) := by
    have := heap_alloc_new ((w.alloc (.cells #[.int .i64 gx, .int .i64 gy] 44)).setCell ⟨bn, 0, none⟩ (.int .i64 ((n + 1 : Nat) : Int))) (.cells #[.int .i64 0, .int .i64 0, .int .i64 0, .int .i64 0, .int .i64 0, .int .i64 0, .int .i64 0, .int .i64 0] 65)
    have e : ((w.alloc (.cells #[.int .i64 gx, .int .i64 gy] 44)).setCell ⟨bn, 0, none⟩ (.int .i64 ((n + 1 : Nat) : Int))).heap.size = w.heap.size + 1 := by simp
    rw [e] at this
    exact this
  clear hbn
  have ecast : ((n + 1 : Nat) : Int) = (n : Int) + 1 := by simp
  rw [ecast] at B2 P2 Q2
  have S3 : CrnSt 4 c g bn bf bs bk lo F (n + 1) (((w.alloc (.cells #[.int .i64 gx, .int .i64 gy] 44)).setCell ⟨bn, 0, none⟩ (.int .i64 ((n : Int) + 1))).alloc (.cells #[.int .i64 0, .int .i64 0, .int .i64 0, .int .i64 0, .int .i64 0, .int .i64 0, .int .i64 0, .int .i64 0] 65)) := S2
  clear S S1 S2 ecast
  show Calls Try.prog 47 #[.int .i64 2, .int .i64 0, .int .i64 2, .agg #[.int .i64 gx, .int .i64 gy], .pointer (some ⟨bn, 0, none⟩), .pointer (some ⟨bf, 0, none⟩), .pointer (some ⟨bs, 0, none⟩), .pointer (some ⟨bk, 0, none⟩)] w _
  go_enter Try.func47, Try.ntmps47
  go_wp2
  generalize ((w.alloc (.cells #[.int .i64 gx, .int .i64 gy] 44)).setCell ⟨bn, 0, none⟩ (.int .i64 ((n : Int) + 1))).alloc (.cells #[.int .i64 0, .int .i64 0, .int .i64 0, .int .i64 0, .int .i64 0, .int .i64 0, .int .i64 0, .int .i64 0] 65) = w2 at *
  go_loopw [28] (fun i wr => ∃ q : Nat, q ≤ 4 ∧ i = .int .i64 q ∧ Lp1 4 2 0 1 c g bn bf bs bk lo gx gy n F w q wr) (fun i _ => 4 - (intOf i).toNat)
  case atStart => exact ⟨0, by omega, rfl, S3, P2, Q2, B2, HGW.out⟩
  case round =>
    clear S3 P2 Q2 B2
    obtain ⟨q, hq, rfl, H⟩ := hrel
    rcases (show q = 0 ∨ q = 1 ∨ q = 2 ∨ q = 3 ∨ q = 4 from by omega) with rfl | rfl | rfl | rfl | rfl
    · obtain ⟨⟨ov, k1⟩, k2⟩ := cells_of H.st.row H.st.len.out (j := 2) (by decide)
      have k3 := H.st.fl
      have k4 := H.st.sd
      have k5 := cell_of_row _ _ 0 _ _ _ H.box
      have k6 := cell_of_row _ _ 1 _ _ _ H.box
      have k7 := frozen_of_row _ _ 0 _ _ H.gaps
      have k8 := frozen_of_row _ _ 1 _ _ H.gaps
      obtain ⟨v9, k9⟩ : ∃ v, wr.cell? ⟨w.heap.size + 1, 0, none⟩ = some v := ⟨_, cell_of_row _ _ 0 _ _ _ H.gaps⟩
      obtain ⟨v10, k10⟩ : ∃ v, wr.cell? ⟨w.heap.size + 1, 1, none⟩ = some v := ⟨_, cell_of_row _ _ 1 _ _ _ H.gaps⟩
      have g2 := heap_ltC H.gaps
      have g3 := heap_ltC H.box
      have g4 : g < wr.heap.size := by have := H.lt; omega
      obtain ⟨g5, g6, g7, g8⟩ := H.st.lt
      have g9 : ¬ g = w.heap.size + 1 := by have := H.lt.1; omega
      have g10 : ¬ g = w.heap.size := by have := H.lt.1; omega
      have g11 : ¬ w.heap.size + 1 = g := by have := H.lt.1; omega
      obtain ⟨tx, hx⟩ : ∃ b, decide ((3 : Int) ≤ (gx : Int)) = b := ⟨_, rfl⟩
      obtain ⟨ty, hy⟩ : ∃ b, decide ((1 : Int) ≤ (gy : Int)) = b := ⟨_, rfl⟩
      cases tx <;> cases ty
      all_goals
        go_wp2
        first
          | exact ⟨⟨1, by omega, rfl, H.put (by omega) (by simp at hx hy; unfold crnIn; simp; omega) _⟩, by simp [intOf]⟩
          | exact ⟨⟨1, by omega, rfl, H.keep (by omega) (by simp at hx hy; unfold crnIn; simp; omega) _⟩, by simp [intOf]⟩
    · obtain ⟨⟨ov, k1⟩, k2⟩ := cells_of H.st.row H.st.len.out (j := 3) (by decide)
      have k3 := H.st.fl
      have k4 := H.st.sd
      have k5 := cell_of_row _ _ 0 _ _ _ H.box
      have k6 := cell_of_row _ _ 1 _ _ _ H.box
      have k7 := frozen_of_row _ _ 2 _ _ H.gaps
      have k8 := frozen_of_row _ _ 3 _ _ H.gaps
      obtain ⟨v9, k9⟩ : ∃ v, wr.cell? ⟨w.heap.size + 1, 2, none⟩ = some v := ⟨_, cell_of_row _ _ 2 _ _ _ H.gaps⟩
      obtain ⟨v10, k10⟩ : ∃ v, wr.cell? ⟨w.heap.size + 1, 3, none⟩ = some v := ⟨_, cell_of_row _ _ 3 _ _ _ H.gaps⟩
      have g2 := heap_ltC H.gaps
      have g3 := heap_ltC H.box
      have g4 : g < wr.heap.size := by have := H.lt; omega
      obtain ⟨g5, g6, g7, g8⟩ := H.st.lt
      have g9 : ¬ g = w.heap.size + 1 := by have := H.lt.1; omega
      have g10 : ¬ g = w.heap.size := by have := H.lt.1; omega
      have g11 : ¬ w.heap.size + 1 = g := by have := H.lt.1; omega
      obtain ⟨tx, hx⟩ : ∃ b, decide ((3 : Int) ≤ (gx : Int)) = b := ⟨_, rfl⟩
      obtain ⟨ty, hy⟩ : ∃ b, decide ((1 : Int) ≤ (gy : Int)) = b := ⟨_, rfl⟩
      cases tx <;> cases ty
      all_goals
        go_wp2
        first
          | exact ⟨⟨2, by omega, rfl, H.put (by omega) (by simp at hx hy; unfold crnIn; simp; omega) _⟩, by simp [intOf]⟩
          | exact ⟨⟨2, by omega, rfl, H.keep (by omega) (by simp at hx hy; unfold crnIn; simp; omega) _⟩, by simp [intOf]⟩
    · obtain ⟨⟨ov, k1⟩, k2⟩ := cells_of H.st.row H.st.len.out (j := 6) (by decide)
      have k3 := H.st.fl
      have k4 := H.st.sd
      have k5 := cell_of_row _ _ 0 _ _ _ H.box
      have k6 := cell_of_row _ _ 1 _ _ _ H.box
      have k7 := frozen_of_row _ _ 4 _ _ H.gaps
      have k8 := frozen_of_row _ _ 5 _ _ H.gaps
      obtain ⟨v9, k9⟩ : ∃ v, wr.cell? ⟨w.heap.size + 1, 4, none⟩ = some v := ⟨_, cell_of_row _ _ 4 _ _ _ H.gaps⟩
      obtain ⟨v10, k10⟩ : ∃ v, wr.cell? ⟨w.heap.size + 1, 5, none⟩ = some v := ⟨_, cell_of_row _ _ 5 _ _ _ H.gaps⟩
      have g2 := heap_ltC H.gaps
      have g3 := heap_ltC H.box
      have g4 : g < wr.heap.size := by have := H.lt; omega
      obtain ⟨g5, g6, g7, g8⟩ := H.st.lt
      have g9 : ¬ g = w.heap.size + 1 := by have := H.lt.1; omega
      have g10 : ¬ g = w.heap.size := by have := H.lt.1; omega
      have g11 : ¬ w.heap.size + 1 = g := by have := H.lt.1; omega
      obtain ⟨tx, hx⟩ : ∃ b, decide ((3 : Int) ≤ (gx : Int)) = b := ⟨_, rfl⟩
      obtain ⟨ty, hy⟩ : ∃ b, decide ((1 : Int) ≤ (gy : Int)) = b := ⟨_, rfl⟩
      cases tx <;> cases ty
      all_goals
        go_wp2
        first
          | exact ⟨⟨3, by omega, rfl, H.put (by omega) (by simp at hx hy; unfold crnIn; simp; omega) _⟩, by simp [intOf]⟩
          | exact ⟨⟨3, by omega, rfl, H.keep (by omega) (by simp at hx hy; unfold crnIn; simp; omega) _⟩, by simp [intOf]⟩
    · obtain ⟨⟨ov, k1⟩, k2⟩ := cells_of H.st.row H.st.len.out (j := 7) (by decide)
      have k3 := H.st.fl
      have k4 := H.st.sd
      have k5 := cell_of_row _ _ 0 _ _ _ H.box
      have k6 := cell_of_row _ _ 1 _ _ _ H.box
      have k7 := frozen_of_row _ _ 6 _ _ H.gaps
      have k8 := frozen_of_row _ _ 7 _ _ H.gaps
      obtain ⟨v9, k9⟩ : ∃ v, wr.cell? ⟨w.heap.size + 1, 6, none⟩ = some v := ⟨_, cell_of_row _ _ 6 _ _ _ H.gaps⟩
      obtain ⟨v10, k10⟩ : ∃ v, wr.cell? ⟨w.heap.size + 1, 7, none⟩ = some v := ⟨_, cell_of_row _ _ 7 _ _ _ H.gaps⟩
      have g2 := heap_ltC H.gaps
      have g3 := heap_ltC H.box
      have g4 : g < wr.heap.size := by have := H.lt; omega
      obtain ⟨g5, g6, g7, g8⟩ := H.st.lt
      have g9 : ¬ g = w.heap.size + 1 := by have := H.lt.1; omega
      have g10 : ¬ g = w.heap.size := by have := H.lt.1; omega
      have g11 : ¬ w.heap.size + 1 = g := by have := H.lt.1; omega
      obtain ⟨tx, hx⟩ : ∃ b, decide ((3 : Int) ≤ (gx : Int)) = b := ⟨_, rfl⟩
      obtain ⟨ty, hy⟩ : ∃ b, decide ((1 : Int) ≤ (gy : Int)) = b := ⟨_, rfl⟩
      cases tx <;> cases ty
      all_goals
        go_wp2
        first
          | exact ⟨⟨4, by omega, rfl, H.put (by omega) (by simp at hx hy; unfold crnIn; simp; omega) _⟩, by simp [intOf]⟩
          | exact ⟨⟨4, by omega, rfl, H.keep (by omega) (by simp at hx hy; unfold crnIn; simp; omega) _⟩, by simp [intOf]⟩
    · have hx0 := crnX_lt (side := 4) (x := 2) (y := 0) (h := 1) (q := 0) h3 h4 (by decide) (by decide)
      have hx1 := crnX_lt (side := 4) (x := 2) (y := 0) (h := 1) (q := 1) h3 h4 (by decide) (by decide)
      have hx2 := crnX_lt (side := 4) (x := 2) (y := 0) (h := 1) (q := 2) h3 h4 (by decide) (by decide)
      have hx3 := crnX_lt (side := 4) (x := 2) (y := 0) (h := 1) (q := 3) h3 h4 (by decide) (by decide)
      obtain ⟨hst, -, hgap, htwo, hlt⟩ := H
      have j0 := cell_of_row _ _ 0 _ _ _ hgap
      have j1 := cell_of_row _ _ 1 _ _ _ hgap
      have j2 := cell_of_row _ _ 2 _ _ _ hgap
      have j3 := cell_of_row _ _ 3 _ _ _ hgap
      have j4 := cell_of_row _ _ 4 _ _ _ hgap
      have j5 := cell_of_row _ _ 5 _ _ _ hgap
      have j6 := cell_of_row _ _ 6 _ _ _ hgap
      have j7 := cell_of_row _ _ 7 _ _ _ hgap
      obtain ⟨p0, hp0⟩ : ∃ p, crnX 2 0 1 gx gy 0 = p := ⟨_, rfl⟩
      rw [hp0] at hx0
      have j0' : wr.cell? ⟨w.heap.size + 1, 0, none⟩ = some (.int .i64 (p0.1 : Nat)) := by rw [← hp0]; exact j0
      have j1' : wr.cell? ⟨w.heap.size + 1, 1, none⟩ = some (.int .i64 (p0.2 : Nat)) := by rw [← hp0]; exact j1
      obtain ⟨a0, b0⟩ := p0
      have HG0 := Lib.hid hp0
      have C0 := Lib.hid (fun (z : World) (F' : List Int) (m : Nat) (S : CrnSt 4 c g bn bf bs bk lo F' m z) (hm : m + 5 ^ 0 ≤ 1000) =>
        (show Calls Try.prog 47 #[.int .i64 2, .int .i64 0, .int .i64 1, .agg #[.int .i64 a0, .int .i64 b0], .pointer (some ⟨bn, 0, none⟩), .pointer (some ⟨bf, 0, none⟩), .pointer (some ⟨bs, 0, none⟩), .pointer (some ⟨bk, 0, none⟩)] z _ from (crn_zero 4 c g bn bf bs bk lo 2 0) z F' m a0 b0 S hx0.1 hx0.2 hm))
      clear hp0 j0 j1 hx0
      obtain ⟨p1, hp1⟩ : ∃ p, crnX 2 0 1 gx gy 1 = p := ⟨_, rfl⟩
      rw [hp1] at hx1
      have j2' : wr.cell? ⟨w.heap.size + 1, 2, none⟩ = some (.int .i64 (p1.1 : Nat)) := by rw [← hp1]; exact j2
      have j3' : wr.cell? ⟨w.heap.size + 1, 3, none⟩ = some (.int .i64 (p1.2 : Nat)) := by rw [← hp1]; exact j3
      obtain ⟨a1, b1⟩ := p1
      have HG1 := Lib.hid hp1
      have C1 := Lib.hid (fun (z : World) (F' : List Int) (m : Nat) (S : CrnSt 4 c g bn bf bs bk lo F' m z) (hm : m + 5 ^ 0 ≤ 1000) =>
        (show Calls Try.prog 47 #[.int .i64 3, .int .i64 0, .int .i64 1, .agg #[.int .i64 a1, .int .i64 b1], .pointer (some ⟨bn, 0, none⟩), .pointer (some ⟨bf, 0, none⟩), .pointer (some ⟨bs, 0, none⟩), .pointer (some ⟨bk, 0, none⟩)] z _ from (crn_zero 4 c g bn bf bs bk lo 3 0) z F' m a1 b1 S hx1.1 hx1.2 hm))
      clear hp1 j2 j3 hx1
      obtain ⟨p2, hp2⟩ : ∃ p, crnX 2 0 1 gx gy 2 = p := ⟨_, rfl⟩
      rw [hp2] at hx2
      have j4' : wr.cell? ⟨w.heap.size + 1, 4, none⟩ = some (.int .i64 (p2.1 : Nat)) := by rw [← hp2]; exact j4
      have j5' : wr.cell? ⟨w.heap.size + 1, 5, none⟩ = some (.int .i64 (p2.2 : Nat)) := by rw [← hp2]; exact j5
      obtain ⟨a2, b2⟩ := p2
      have HG2 := Lib.hid hp2
      have C2 := Lib.hid (fun (z : World) (F' : List Int) (m : Nat) (S : CrnSt 4 c g bn bf bs bk lo F' m z) (hm : m + 5 ^ 0 ≤ 1000) =>
        (show Calls Try.prog 47 #[.int .i64 2, .int .i64 1, .int .i64 1, .agg #[.int .i64 a2, .int .i64 b2], .pointer (some ⟨bn, 0, none⟩), .pointer (some ⟨bf, 0, none⟩), .pointer (some ⟨bs, 0, none⟩), .pointer (some ⟨bk, 0, none⟩)] z _ from (crn_zero 4 c g bn bf bs bk lo 2 1) z F' m a2 b2 S hx2.1 hx2.2 hm))
      clear hp2 j4 j5 hx2
      obtain ⟨p3, hp3⟩ : ∃ p, crnX 2 0 1 gx gy 3 = p := ⟨_, rfl⟩
      rw [hp3] at hx3
      have j6' : wr.cell? ⟨w.heap.size + 1, 6, none⟩ = some (.int .i64 (p3.1 : Nat)) := by rw [← hp3]; exact j6
      have j7' : wr.cell? ⟨w.heap.size + 1, 7, none⟩ = some (.int .i64 (p3.2 : Nat)) := by rw [← hp3]; exact j7
      obtain ⟨a3, b3⟩ := p3
      have HG3 := Lib.hid hp3
      have C3 := Lib.hid (fun (z : World) (F' : List Int) (m : Nat) (S : CrnSt 4 c g bn bf bs bk lo F' m z) (hm : m + 5 ^ 0 ≤ 1000) =>
        (show Calls Try.prog 47 #[.int .i64 3, .int .i64 1, .int .i64 1, .agg #[.int .i64 a3, .int .i64 b3], .pointer (some ⟨bn, 0, none⟩), .pointer (some ⟨bf, 0, none⟩), .pointer (some ⟨bs, 0, none⟩), .pointer (some ⟨bk, 0, none⟩)] z _ from (crn_zero 4 c g bn bf bs bk lo 3 1) z F' m a3 b3 S hx3.1 hx3.2 hm))
      clear hp3 j6 j7 hx3
      simp only at j0' j1' j2' j3' j4' j5' j6' j7'
      have hL2 : Lp2 4 0 2 0 c g bn bf bs bk lo gx gy (crnL 4 2 0 1 gx gy n F 4, (n : Int) + 1) (n + 1) w 0 wr := ⟨n + 1, rfl, by omega, hst, htwo⟩
      clear hst hgap htwo c0 f0
      rw [show ((4 : Nat) : Int) = 4 from rfl]
      go_wp2
      go_loopw [86] (fun i w6 => ∃ q : Nat, q ≤ 4 ∧ i = .int .i64 q ∧ Lp2 4 0 2 0 c g bn bf bs bk lo gx gy (crnL 4 2 0 1 gx gy n F 4, (n : Int) + 1) (n + 1) w q w6) (fun i _ => 4 - (intOf i).toNat)
      case atStart => exact ⟨0, by omega, rfl, hL2⟩
      case round =>
      clear hL2 j0' j1' j2' j3' j4' j5' j6' j7'
      obtain ⟨q, hq, rfl, H2⟩ := hrel
      have z1 : (5 : Nat) ^ 1 = 5 * 5 ^ 0 := by decide
      have z2 : 1 ≤ (5 : Nat) ^ 0 := by decide
      have z3 : (5 : Nat) ^ 0 = 1 := by decide
      rw [z3] at z1 z2 h6
      rcases (show q = 0 ∨ q = 1 ∨ q = 2 ∨ q = 3 ∨ q = 4 from by omega) with rfl | rfl | rfl | rfl | rfl
      · obtain ⟨m, hm, hle, S3, B3⟩ := H2
        have hle' : m + 5 ^ 0 ≤ 1000 := by omega
        have k1 := S3.wk
        have S4 := S3.two (bl_alloc (Below.refl _ _) (.cells #[.int .i64 a0, .int .i64 b0] 44))
        have B4 := B3.alloc (.cells #[.int .i64 a0, .int .i64 b0] 44)
        have iq : ∀ z, (Instr.index 65 (.agg #[.int .i64 a0, .int .i64 b0, .int .i64 a1, .int .i64 b1, .int .i64 a2, .int .i64 b2, .int .i64 a3, .int .i64 b3]) (.int .i64 0)).run Try.prog z = .ok (.agg #[.int .i64 a0, .int .i64 b0]) z := fun _ => by kernel_rfl
        have k2 := S3.lt.2.2.2
        go_wp2_with fail
        refine (C0.out _ _ _ S4 hle').mono ?_
        rintro e w5 ⟨rfl, hpost⟩
        go_wp2_with fail
        go_roundw
        case rel => exact ⟨1, by omega, rfl, Lp2.next (X := 2) (Y := 0) rfl rfl HG0 hm hle B4 hpost⟩
        case measure => simp [intOf]
      · obtain ⟨m, hm, hle, S3, B3⟩ := H2
        have hle' : m + 5 ^ 0 ≤ 1000 := by omega
        have k1 := S3.wk
        have S4 := S3.two (bl_alloc (Below.refl _ _) (.cells #[.int .i64 a1, .int .i64 b1] 44))
        have B4 := B3.alloc (.cells #[.int .i64 a1, .int .i64 b1] 44)
        have iq : ∀ z, (Instr.index 65 (.agg #[.int .i64 a0, .int .i64 b0, .int .i64 a1, .int .i64 b1, .int .i64 a2, .int .i64 b2, .int .i64 a3, .int .i64 b3]) (.int .i64 1)).run Try.prog z = .ok (.agg #[.int .i64 a1, .int .i64 b1]) z := fun _ => by kernel_rfl
        have k2 := S3.lt.2.2.2
        go_wp2_with fail
        refine (C1.out _ _ _ S4 hle').mono ?_
        rintro e w5 ⟨rfl, hpost⟩
        go_wp2_with fail
        go_roundw
        case rel => exact ⟨2, by omega, rfl, Lp2.next (X := 3) (Y := 0) rfl rfl HG1 hm hle B4 hpost⟩
        case measure => simp [intOf]
      · obtain ⟨m, hm, hle, S3, B3⟩ := H2
        have hle' : m + 5 ^ 0 ≤ 1000 := by omega
        have k1 := S3.wk
        have S4 := S3.two (bl_alloc (Below.refl _ _) (.cells #[.int .i64 a2, .int .i64 b2] 44))
        have B4 := B3.alloc (.cells #[.int .i64 a2, .int .i64 b2] 44)
        have iq : ∀ z, (Instr.index 65 (.agg #[.int .i64 a0, .int .i64 b0, .int .i64 a1, .int .i64 b1, .int .i64 a2, .int .i64 b2, .int .i64 a3, .int .i64 b3]) (.int .i64 2)).run Try.prog z = .ok (.agg #[.int .i64 a2, .int .i64 b2]) z := fun _ => by kernel_rfl
        have k2 := S3.lt.2.2.2
        go_wp2_with fail
        refine (C2.out _ _ _ S4 hle').mono ?_
        rintro e w5 ⟨rfl, hpost⟩
        go_wp2_with fail
        go_roundw
        case rel => exact ⟨3, by omega, rfl, Lp2.next (X := 2) (Y := 1) rfl rfl HG2 hm hle B4 hpost⟩
        case measure => simp [intOf]
      · obtain ⟨m, hm, hle, S3, B3⟩ := H2
        have hle' : m + 5 ^ 0 ≤ 1000 := by omega
        have k1 := S3.wk
        have S4 := S3.two (bl_alloc (Below.refl _ _) (.cells #[.int .i64 a3, .int .i64 b3] 44))
        have B4 := B3.alloc (.cells #[.int .i64 a3, .int .i64 b3] 44)
        have iq : ∀ z, (Instr.index 65 (.agg #[.int .i64 a0, .int .i64 b0, .int .i64 a1, .int .i64 b1, .int .i64 a2, .int .i64 b2, .int .i64 a3, .int .i64 b3]) (.int .i64 3)).run Try.prog z = .ok (.agg #[.int .i64 a3, .int .i64 b3]) z := fun _ => by kernel_rfl
        have k2 := S3.lt.2.2.2
        go_wp2_with fail
        refine (C3.out _ _ _ S4 hle').mono ?_
        rintro e w5 ⟨rfl, hpost⟩
        go_wp2_with fail
        go_roundw
        case rel => exact ⟨4, by omega, rfl, Lp2.next (X := 3) (Y := 1) rfl rfl HG3 hm hle B4 hpost⟩
        case measure => simp [intOf]
      · obtain ⟨m, hm, hle, S3, B3⟩ := H2
        go_wp2
        go_end0
        exact ⟨rfl, ⟨m, rfl, by omega, S3⟩, B3⟩
set_option maxRecDepth 100000 in
set_option maxHeartbeats 4000000 in
theorem crn_4_1_0_2 (c g bn bf bs bk lo : Nat) : CrnOk 4 c g bn bf bs bk lo 1 0 2 := by
  intro w F n gx gy S h3 h4 h5
  have h6 : n + 1 + 4 * 5 ^ 0 ≤ 1000 := by
    have : (5 : Nat) ^ 1 = 5 * 5 ^ 0 := by decide
    have : 1 ≤ 5 ^ 0 := by decide
    omega
  rw [crnI_eq]
  have S1 := S.two (bl_alloc (Below.refl w.heap.size w) (.cells #[.int .i64 gx, .int .i64 gy] 44))
  have c0 := cell_of_row _ _ 0 _ _ _ S1.nx
  have f0 := frozen_of_row _ _ 0 _ _ S1.nx
  have hbn : bn < w.heap.size := heap_ltC S.nx
  have HGW : Hid (g < w.heap.size ∧ bn < w.heap.size ∧ bs < w.heap.size ∧ bf < w.heap.size ∧ bk < w.heap.size) := by
    obtain ⟨⟨ov, k1⟩, -⟩ := cells_of S.row S.len.out (j := 0) (by decide)
    exact ⟨by have := World.block_lt_of_cell? w _ k1; simpa using this, hbn, S.lt.1, S.lt.2.1, S.lt.2.2.2⟩
  have S2 := (S1.inc (n + 1)).two (bl_alloc (Below.refl _ _) (.cells #[.int .i64 0, .int .i64 0, .int .i64 0, .int .i64 0, .int .i64 0, .int .i64 0, .int .i64 0, .int .i64 0] 65))
  have B2 : Two g bn w (((w.alloc (.cells #[.int .i64 gx, .int .i64 gy] 44)).setCell ⟨bn, 0, none⟩ (.int .i64 ((n + 1 : Nat) : Int))).alloc (.cells #[.int .i64 0, .int .i64 0, .int .i64 0, .int .i64 0, .int .i64 0, .int .i64 0, .int .i64 0, .int .i64 0] 65)) :=
    (((Two.refl g bn w).alloc _).setB 0 _).alloc _
  have P2 : (((w.alloc (.cells #[.int .i64 gx, .int .i64 gy] 44)).setCell ⟨bn, 0, none⟩ (.int .i64 ((n + 1 : Nat) : Int))).alloc (.cells #[.int .i64 0, .int .i64 0, .int .i64 0, .int .i64 0, .int .i64 0, .int .i64 0, .int .i64 0, .int .i64 0] 65)).heap[w.heap.size]? = some (.cells #[.int .i64 gx, .int .i64 gy] 44 (0, 0)) := by
    rw [(bl_alloc (Below.refl _ _) _).block w.heap.size (by simp), Below.heap_setCell _ _ _ _ (by simp; omega)]
    exact heap_alloc_new w _
  have Q2 : (((w.alloc (.cells #[.int .i64 gx, .int .i64 gy] 44)).setCell ⟨bn, 0, none⟩ (.int .i64 ((n + 1 : Nat) : Int))).alloc (.cells #[.int .i64 0, .int .i64 0, .int .i64 0, .int .i64 0, .int .i64 0, .int .i64 0, .int .i64 0, .int .i64 0] 65)).heap[w.heap.size + 1]? = some (.cells (gapA (crnX 0 2 1 gx gy) 0) 65 (0, 0)) := by
    have := heap_alloc_new ((w.alloc (.cells #[.int .i64 gx, .int .i64 gy] 44)).setCell ⟨bn, 0, none⟩ (.int .i64 ((n + 1 : Nat) : Int))) (.cells #[.int .i64 0, .int .i64 0, .int .i64 0, .int .i64 0, .int .i64 0, .int .i64 0, .int .i64 0, .int .i64 0] 65)
    have e : ((w.alloc (.cells #[.int .i64 gx, .int .i64 gy] 44)).setCell ⟨bn, 0, none⟩ (.int .i64 ((n + 1 : Nat) : Int))).heap.size = w.heap.size + 1 := by simp
    rw [e] at this
    exact this
  clear hbn
  have ecast : ((n + 1 : Nat) : Int) = (n : Int) + 1 := by simp
  rw [ecast] at B2 P2 Q2
  have S3 : CrnSt 4 c g bn bf bs bk lo F (n + 1) (((w.alloc (.cells #[.int .i64 gx, .int .i64 gy] 44)).setCell ⟨bn, 0, none⟩ (.int .i64 ((n : Int) + 1))).alloc (.cells #[.int .i64 0, .int .i64 0, .int .i64 0, .int .i64 0, .int .i64 0, .int .i64 0, .int .i64 0, .int .i64 0] 65)) := S2
  clear S S1 S2 ecast
  show Calls Try.prog 47 #[.int .i64 0, .int .i64 2, .int .i64 2, .agg #[.int .i64 gx, .int .i64 gy], .pointer (some ⟨bn, 0, none⟩), .pointer (some ⟨bf, 0, none⟩), .pointer (some ⟨bs, 0, none⟩), .pointer (some ⟨bk, 0, none⟩)] w _
  go_enter Try.func47, Try.ntmps47
  go_wp2
  generalize ((w.alloc (.cells #[.int .i64 gx, .int .i64 gy] 44)).setCell ⟨bn, 0, none⟩ (.int .i64 ((n : Int) + 1))).alloc (.cells #[.int .i64 0, .int .i64 0, .int .i64 0, .int .i64 0, .int .i64 0, .int .i64 0, .int .i64 0, .int .i64 0] 65) = w2 at *
  go_loopw [28] (fun i wr => ∃ q : Nat, q ≤ 4 ∧ i = .int .i64 q ∧ Lp1 4 0 2 1 c g bn bf bs bk lo gx gy n F w q wr) (fun i _ => 4 - (intOf i).toNat)
  case atStart => exact ⟨0, by omega, rfl, S3, P2, Q2, B2, HGW.out⟩
  case round =>
    clear S3 P2 Q2 B2
    obtain ⟨q, hq, rfl, H⟩ := hrel
    rcases (show q = 0 ∨ q = 1 ∨ q = 2 ∨ q = 3 ∨ q = 4 from by omega) with rfl | rfl | rfl | rfl | rfl
    · obtain ⟨⟨ov, k1⟩, k2⟩ := cells_of H.st.row H.st.len.out (j := 8) (by decide)
      have k3 := H.st.fl
      have k4 := H.st.sd
      have k5 := cell_of_row _ _ 0 _ _ _ H.box
      have k6 := cell_of_row _ _ 1 _ _ _ H.box
      have k7 := frozen_of_row _ _ 0 _ _ H.gaps
      have k8 := frozen_of_row _ _ 1 _ _ H.gaps
      obtain ⟨v9, k9⟩ : ∃ v, wr.cell? ⟨w.heap.size + 1, 0, none⟩ = some v := ⟨_, cell_of_row _ _ 0 _ _ _ H.gaps⟩
      obtain ⟨v10, k10⟩ : ∃ v, wr.cell? ⟨w.heap.size + 1, 1, none⟩ = some v := ⟨_, cell_of_row _ _ 1 _ _ _ H.gaps⟩
      have g2 := heap_ltC H.gaps
      have g3 := heap_ltC H.box
      have g4 : g < wr.heap.size := by have := H.lt; omega
      obtain ⟨g5, g6, g7, g8⟩ := H.st.lt
      have g9 : ¬ g = w.heap.size + 1 := by have := H.lt.1; omega
      have g10 : ¬ g = w.heap.size := by have := H.lt.1; omega
      have g11 : ¬ w.heap.size + 1 = g := by have := H.lt.1; omega
      obtain ⟨tx, hx⟩ : ∃ b, decide ((1 : Int) ≤ (gx : Int)) = b := ⟨_, rfl⟩
      obtain ⟨ty, hy⟩ : ∃ b, decide ((3 : Int) ≤ (gy : Int)) = b := ⟨_, rfl⟩
      cases tx <;> cases ty
      all_goals
        go_wp2
        first
          | exact ⟨⟨1, by omega, rfl, H.put (by omega) (by simp at hx hy; unfold crnIn; simp; omega) _⟩, by simp [intOf]⟩
          | exact ⟨⟨1, by omega, rfl, H.keep (by omega) (by simp at hx hy; unfold crnIn; simp; omega) _⟩, by simp [intOf]⟩
    · obtain ⟨⟨ov, k1⟩, k2⟩ := cells_of H.st.row H.st.len.out (j := 9) (by decide)
      have k3 := H.st.fl
      have k4 := H.st.sd
      have k5 := cell_of_row _ _ 0 _ _ _ H.box
      have k6 := cell_of_row _ _ 1 _ _ _ H.box
      have k7 := frozen_of_row _ _ 2 _ _ H.gaps
      have k8 := frozen_of_row _ _ 3 _ _ H.gaps
      obtain ⟨v9, k9⟩ : ∃ v, wr.cell? ⟨w.heap.size + 1, 2, none⟩ = some v := ⟨_, cell_of_row _ _ 2 _ _ _ H.gaps⟩
      obtain ⟨v10, k10⟩ : ∃ v, wr.cell? ⟨w.heap.size + 1, 3, none⟩ = some v := ⟨_, cell_of_row _ _ 3 _ _ _ H.gaps⟩
      have g2 := heap_ltC H.gaps
      have g3 := heap_ltC H.box
      have g4 : g < wr.heap.size := by have := H.lt; omega
      obtain ⟨g5, g6, g7, g8⟩ := H.st.lt
      have g9 : ¬ g = w.heap.size + 1 := by have := H.lt.1; omega
      have g10 : ¬ g = w.heap.size := by have := H.lt.1; omega
      have g11 : ¬ w.heap.size + 1 = g := by have := H.lt.1; omega
      obtain ⟨tx, hx⟩ : ∃ b, decide ((1 : Int) ≤ (gx : Int)) = b := ⟨_, rfl⟩
      obtain ⟨ty, hy⟩ : ∃ b, decide ((3 : Int) ≤ (gy : Int)) = b := ⟨_, rfl⟩
      cases tx <;> cases ty
      all_goals
        go_wp2
        first
          | exact ⟨⟨2, by omega, rfl, H.put (by omega) (by simp at hx hy; unfold crnIn; simp; omega) _⟩, by simp [intOf]⟩
          | exact ⟨⟨2, by omega, rfl, H.keep (by omega) (by simp at hx hy; unfold crnIn; simp; omega) _⟩, by simp [intOf]⟩
    · obtain ⟨⟨ov, k1⟩, k2⟩ := cells_of H.st.row H.st.len.out (j := 12) (by decide)
      have k3 := H.st.fl
      have k4 := H.st.sd
      have k5 := cell_of_row _ _ 0 _ _ _ H.box
      have k6 := cell_of_row _ _ 1 _ _ _ H.box
      have k7 := frozen_of_row _ _ 4 _ _ H.gaps
      have k8 := frozen_of_row _ _ 5 _ _ H.gaps
      obtain ⟨v9, k9⟩ : ∃ v, wr.cell? ⟨w.heap.size + 1, 4, none⟩ = some v := ⟨_, cell_of_row _ _ 4 _ _ _ H.gaps⟩
      obtain ⟨v10, k10⟩ : ∃ v, wr.cell? ⟨w.heap.size + 1, 5, none⟩ = some v := ⟨_, cell_of_row _ _ 5 _ _ _ H.gaps⟩
      have g2 := heap_ltC H.gaps
      have g3 := heap_ltC H.box
      have g4 : g < wr.heap.size := by have := H.lt; omega
      obtain ⟨g5, g6, g7, g8⟩ := H.st.lt
      have g9 : ¬ g = w.heap.size + 1 := by have := H.lt.1; omega
      have g10 : ¬ g = w.heap.size := by have := H.lt.1; omega
      have g11 : ¬ w.heap.size + 1 = g := by have := H.lt.1; omega
      obtain ⟨tx, hx⟩ : ∃ b, decide ((1 : Int) ≤ (gx : Int)) = b := ⟨_, rfl⟩
      obtain ⟨ty, hy⟩ : ∃ b, decide ((3 : Int) ≤ (gy : Int)) = b := ⟨_, rfl⟩
      cases tx <;> cases ty
      all_goals
        go_wp2
        first
          | exact ⟨⟨3, by omega, rfl, H.put (by omega) (by simp at hx hy; unfold crnIn; simp; omega) _⟩, by simp [intOf]⟩
          | exact ⟨⟨3, by omega, rfl, H.keep (by omega) (by simp at hx hy; unfold crnIn; simp; omega) _⟩, by simp [intOf]⟩
    · obtain ⟨⟨ov, k1⟩, k2⟩ := cells_of H.st.row H.st.len.out (j := 13) (by decide)
      have k3 := H.st.fl
      have k4 := H.st.sd
      have k5 := cell_of_row _ _ 0 _ _ _ H.box
      have k6 := cell_of_row _ _ 1 _ _ _ H.box
      have k7 := frozen_of_row _ _ 6 _ _ H.gaps
      have k8 := frozen_of_row _ _ 7 _ _ H.gaps
      obtain ⟨v9, k9⟩ : ∃ v, wr.cell? ⟨w.heap.size + 1, 6, none⟩ = some v := ⟨_, cell_of_row _ _ 6 _ _ _ H.gaps⟩
      obtain ⟨v10, k10⟩ : ∃ v, wr.cell? ⟨w.heap.size + 1, 7, none⟩ = some v := ⟨_, cell_of_row _ _ 7 _ _ _ H.gaps⟩
      have g2 := heap_ltC H.gaps
      have g3 := heap_ltC H.box
      have g4 : g < wr.heap.size := by have := H.lt; omega
      obtain ⟨g5, g6, g7, g8⟩ := H.st.lt
      have g9 : ¬ g = w.heap.size + 1 := by have := H.lt.1; omega
      have g10 : ¬ g = w.heap.size := by have := H.lt.1; omega
      have g11 : ¬ w.heap.size + 1 = g := by have := H.lt.1; omega
      obtain ⟨tx, hx⟩ : ∃ b, decide ((1 : Int) ≤ (gx : Int)) = b := ⟨_, rfl⟩
      obtain ⟨ty, hy⟩ : ∃ b, decide ((3 : Int) ≤ (gy : Int)) = b := ⟨_, rfl⟩
      cases tx <;> cases ty
      all_goals
        go_wp2
        first
          | exact ⟨⟨4, by omega, rfl, H.put (by omega) (by simp at hx hy; unfold crnIn; simp; omega) _⟩, by simp [intOf]⟩
          | exact ⟨⟨4, by omega, rfl, H.keep (by omega) (by simp at hx hy; unfold crnIn; simp; omega) _⟩, by simp [intOf]⟩
    · have hx0 := crnX_lt (side := 4) (x := 0) (y := 2) (h := 1) (q := 0) h3 h4 (by decide) (by decide)
      have hx1 := crnX_lt (side := 4) (x := 0) (y := 2) (h := 1) (q := 1) h3 h4 (by decide) (by decide)
      have hx2 := crnX_lt (side := 4) (x := 0) (y := 2) (h := 1) (q := 2) h3 h4 (by decide) (by decide)
      have hx3 := crnX_lt (side := 4) (x := 0) (y := 2) (h := 1) (q := 3) h3 h4 (by decide) (by decide)
      obtain ⟨hst, -, hgap, htwo, hlt⟩ := H
      have j0 := cell_of_row _ _ 0 _ _ _ hgap
      have j1 := cell_of_row _ _ 1 _ _ _ hgap
      have j2 := cell_of_row _ _ 2 _ _ _ hgap
      have j3 := cell_of_row _ _ 3 _ _ _ hgap
      have j4 := cell_of_row _ _ 4 _ _ _ hgap
      have j5 := cell_of_row _ _ 5 _ _ _ hgap
      have j6 := cell_of_row _ _ 6 _ _ _ hgap
      have j7 := cell_of_row _ _ 7 _ _ _ hgap
      obtain ⟨p0, hp0⟩ : ∃ p, crnX 0 2 1 gx gy 0 = p := ⟨_, rfl⟩
      rw [hp0] at hx0
      have j0' : wr.cell? ⟨w.heap.size + 1, 0, none⟩ = some (.int .i64 (p0.1 : Nat)) := by rw [← hp0]; exact j0
      have j1' : wr.cell? ⟨w.heap.size + 1, 1, none⟩ = some (.int .i64 (p0.2 : Nat)) := by rw [← hp0]; exact j1
      obtain ⟨a0, b0⟩ := p0
      have HG0 := Lib.hid hp0
      have C0 := Lib.hid (fun (z : World) (F' : List Int) (m : Nat) (S : CrnSt 4 c g bn bf bs bk lo F' m z) (hm : m + 5 ^ 0 ≤ 1000) =>
        (show Calls Try.prog 47 #[.int .i64 0, .int .i64 2, .int .i64 1, .agg #[.int .i64 a0, .int .i64 b0], .pointer (some ⟨bn, 0, none⟩), .pointer (some ⟨bf, 0, none⟩), .pointer (some ⟨bs, 0, none⟩), .pointer (some ⟨bk, 0, none⟩)] z _ from (crn_zero 4 c g bn bf bs bk lo 0 2) z F' m a0 b0 S hx0.1 hx0.2 hm))
      clear hp0 j0 j1 hx0
      obtain ⟨p1, hp1⟩ : ∃ p, crnX 0 2 1 gx gy 1 = p := ⟨_, rfl⟩
      rw [hp1] at hx1
      have j2' : wr.cell? ⟨w.heap.size + 1, 2, none⟩ = some (.int .i64 (p1.1 : Nat)) := by rw [← hp1]; exact j2
      have j3' : wr.cell? ⟨w.heap.size + 1, 3, none⟩ = some (.int .i64 (p1.2 : Nat)) := by rw [← hp1]; exact j3
      obtain ⟨a1, b1⟩ := p1
      have HG1 := Lib.hid hp1
      have C1 := Lib.hid (fun (z : World) (F' : List Int) (m : Nat) (S : CrnSt 4 c g bn bf bs bk lo F' m z) (hm : m + 5 ^ 0 ≤ 1000) =>
        (show Calls Try.prog 47 #[.int .i64 1, .int .i64 2, .int .i64 1, .agg #[.int .i64 a1, .int .i64 b1], .pointer (some ⟨bn, 0, none⟩), .pointer (some ⟨bf, 0, none⟩), .pointer (some ⟨bs, 0, none⟩), .pointer (some ⟨bk, 0, none⟩)] z _ from (crn_zero 4 c g bn bf bs bk lo 1 2) z F' m a1 b1 S hx1.1 hx1.2 hm))
      clear hp1 j2 j3 hx1
      obtain ⟨p2, hp2⟩ : ∃ p, crnX 0 2 1 gx gy 2 = p := ⟨_, rfl⟩
      rw [hp2] at hx2
      have j4' : wr.cell? ⟨w.heap.size + 1, 4, none⟩ = some (.int .i64 (p2.1 : Nat)) := by rw [← hp2]; exact j4
      have j5' : wr.cell? ⟨w.heap.size + 1, 5, none⟩ = some (.int .i64 (p2.2 : Nat)) := by rw [← hp2]; exact j5
      obtain ⟨a2, b2⟩ := p2
      have HG2 := Lib.hid hp2
      have C2 := Lib.hid (fun (z : World) (F' : List Int) (m : Nat) (S : CrnSt 4 c g bn bf bs bk lo F' m z) (hm : m + 5 ^ 0 ≤ 1000) =>
        (show Calls Try.prog 47 #[.int .i64 0, .int .i64 3, .int .i64 1, .agg #[.int .i64 a2, .int .i64 b2], .pointer (some ⟨bn, 0, none⟩), .pointer (some ⟨bf, 0, none⟩), .pointer (some ⟨bs, 0, none⟩), .pointer (some ⟨bk, 0, none⟩)] z _ from (crn_zero 4 c g bn bf bs bk lo 0 3) z F' m a2 b2 S hx2.1 hx2.2 hm))
      clear hp2 j4 j5 hx2
      obtain ⟨p3, hp3⟩ : ∃ p, crnX 0 2 1 gx gy 3 = p := ⟨_, rfl⟩
      rw [hp3] at hx3
      have j6' : wr.cell? ⟨w.heap.size + 1, 6, none⟩ = some (.int .i64 (p3.1 : Nat)) := by rw [← hp3]; exact j6
      have j7' : wr.cell? ⟨w.heap.size + 1, 7, none⟩ = some (.int .i64 (p3.2 : Nat)) := by rw [← hp3]; exact j7
      obtain ⟨a3, b3⟩ := p3
      have HG3 := Lib.hid hp3
      have C3 := Lib.hid (fun (z : World) (F' : List Int) (m : Nat) (S : CrnSt 4 c g bn bf bs bk lo F' m z) (hm : m + 5 ^ 0 ≤ 1000) =>
        (show Calls Try.prog 47 #[.int .i64 1, .int .i64 3, .int .i64 1, .agg #[.int .i64 a3, .int .i64 b3], .pointer (some ⟨bn, 0, none⟩), .pointer (some ⟨bf, 0, none⟩), .pointer (some ⟨bs, 0, none⟩), .pointer (some ⟨bk, 0, none⟩)] z _ from (crn_zero 4 c g bn bf bs bk lo 1 3) z F' m a3 b3 S hx3.1 hx3.2 hm))
      clear hp3 j6 j7 hx3
      simp only at j0' j1' j2' j3' j4' j5' j6' j7'
      have hL2 : Lp2 4 0 0 2 c g bn bf bs bk lo gx gy (crnL 4 0 2 1 gx gy n F 4, (n : Int) + 1) (n + 1) w 0 wr := ⟨n + 1, rfl, by omega, hst, htwo⟩
      clear hst hgap htwo c0 f0
      rw [show ((4 : Nat) : Int) = 4 from rfl]
      go_wp2
      go_loopw [86] (fun i w6 => ∃ q : Nat, q ≤ 4 ∧ i = .int .i64 q ∧ Lp2 4 0 0 2 c g bn bf bs bk lo gx gy (crnL 4 0 2 1 gx gy n F 4, (n : Int) + 1) (n + 1) w q w6) (fun i _ => 4 - (intOf i).toNat)
      case atStart => exact ⟨0, by omega, rfl, hL2⟩
      case round =>
      clear hL2 j0' j1' j2' j3' j4' j5' j6' j7'
      obtain ⟨q, hq, rfl, H2⟩ := hrel
      have z1 : (5 : Nat) ^ 1 = 5 * 5 ^ 0 := by decide
      have z2 : 1 ≤ (5 : Nat) ^ 0 := by decide
      have z3 : (5 : Nat) ^ 0 = 1 := by decide
      rw [z3] at z1 z2 h6
      rcases (show q = 0 ∨ q = 1 ∨ q = 2 ∨ q = 3 ∨ q = 4 from by omega) with rfl | rfl | rfl | rfl | rfl
      · obtain ⟨m, hm, hle, S3, B3⟩ := H2
        have hle' : m + 5 ^ 0 ≤ 1000 := by omega
        have k1 := S3.wk
        have S4 := S3.two (bl_alloc (Below.refl _ _) (.cells #[.int .i64 a0, .int .i64 b0] 44))
        have B4 := B3.alloc (.cells #[.int .i64 a0, .int .i64 b0] 44)
        have iq : ∀ z, (Instr.index 65 (.agg #[.int .i64 a0, .int .i64 b0, .int .i64 a1, .int .i64 b1, .int .i64 a2, .int .i64 b2, .int .i64 a3, .int .i64 b3]) (.int .i64 0)).run Try.prog z = .ok (.agg #[.int .i64 a0, .int .i64 b0]) z := fun _ => by kernel_rfl
        have k2 := S3.lt.2.2.2
        go_wp2_with fail
        refine (C0.out _ _ _ S4 hle').mono ?_
        rintro e w5 ⟨rfl, hpost⟩
        go_wp2_with fail
        go_roundw
        case rel => exact ⟨1, by omega, rfl, Lp2.next (X := 0) (Y := 2) rfl rfl HG0 hm hle B4 hpost⟩
        case measure => simp [intOf]
      · obtain ⟨m, hm, hle, S3, B3⟩ := H2
        have hle' : m + 5 ^ 0 ≤ 1000 := by omega
        have k1 := S3.wk
        have S4 := S3.two (bl_alloc (Below.refl _ _) (.cells #[.int .i64 a1, .int .i64 b1] 44))
        have B4 := B3.alloc (.cells #[.int .i64 a1, .int .i64 b1] 44)
        have iq : ∀ z, (Instr.index 65 (.agg #[.int .i64 a0, .int .i64 b0, .int .i64 a1, .int .i64 b1, .int .i64 a2, .int .i64 b2, .int .i64 a3, .int .i64 b3]) (.int .i64 1)).run Try.prog z = .ok (.agg #[.int .i64 a1, .int .i64 b1]) z := fun _ => by kernel_rfl
        have k2 := S3.lt.2.2.2
        go_wp2_with fail
        refine (C1.out _ _ _ S4 hle').mono ?_
        rintro e w5 ⟨rfl, hpost⟩
        go_wp2_with fail
        go_roundw
        case rel => exact ⟨2, by omega, rfl, Lp2.next (X := 1) (Y := 2) rfl rfl HG1 hm hle B4 hpost⟩
        case measure => simp [intOf]
      · obtain ⟨m, hm, hle, S3, B3⟩ := H2
        have hle' : m + 5 ^ 0 ≤ 1000 := by omega
        have k1 := S3.wk
        have S4 := S3.two (bl_alloc (Below.refl _ _) (.cells #[.int .i64 a2, .int .i64 b2] 44))
        have B4 := B3.alloc (.cells #[.int .i64 a2, .int .i64 b2] 44)
        have iq : ∀ z, (Instr.index 65 (.agg #[.int .i64 a0, .int .i64 b0, .int .i64 a1, .int .i64 b1, .int .i64 a2, .int .i64 b2, .int .i64 a3, .int .i64 b3]) (.int .i64 2)).run Try.prog z = .ok (.agg #[.int .i64 a2, .int .i64 b2]) z := fun _ => by kernel_rfl
        have k2 := S3.lt.2.2.2
        go_wp2_with fail
        refine (C2.out _ _ _ S4 hle').mono ?_
        rintro e w5 ⟨rfl, hpost⟩
        go_wp2_with fail
        go_roundw
        case rel => exact ⟨3, by omega, rfl, Lp2.next (X := 0) (Y := 3) rfl rfl HG2 hm hle B4 hpost⟩
        case measure => simp [intOf]
      · obtain ⟨m, hm, hle, S3, B3⟩ := H2
        have hle' : m + 5 ^ 0 ≤ 1000 := by omega
        have k1 := S3.wk
        have S4 := S3.two (bl_alloc (Below.refl _ _) (.cells #[.int .i64 a3, .int .i64 b3] 44))
        have B4 := B3.alloc (.cells #[.int .i64 a3, .int .i64 b3] 44)
        have iq : ∀ z, (Instr.index 65 (.agg #[.int .i64 a0, .int .i64 b0, .int .i64 a1, .int .i64 b1, .int .i64 a2, .int .i64 b2, .int .i64 a3, .int .i64 b3]) (.int .i64 3)).run Try.prog z = .ok (.agg #[.int .i64 a3, .int .i64 b3]) z := fun _ => by kernel_rfl
        have k2 := S3.lt.2.2.2
        go_wp2_with fail
        refine (C3.out _ _ _ S4 hle').mono ?_
        rintro e w5 ⟨rfl, hpost⟩
        go_wp2_with fail
        go_roundw
        case rel => exact ⟨4, by omega, rfl, Lp2.next (X := 1) (Y := 3) rfl rfl HG3 hm hle B4 hpost⟩
        case measure => simp [intOf]
      · obtain ⟨m, hm, hle, S3, B3⟩ := H2
        go_wp2
        go_end0
        exact ⟨rfl, ⟨m, rfl, by omega, S3⟩, B3⟩
end Go.Proofs.Ytnignglhefcecaa

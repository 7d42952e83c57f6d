
/- Contract: slices.Repeat of one number. -/
import Derived.Test.YtafmpgikdhlknaaGreatMemE
import Derived.Laws.CopyOwn
namespace Go.Proofs.YtafmpgikdhlknaaGreat
open Go.RowKit

theorem and_low (n : Nat) (hn : n ≤ 64) : bits BinOp.and IntKind.u64 (n : Int) 4294967295 = (n : Int) := by
  revert n; decide +kernel
set_option maxHeartbeats 1000000 in
theorem mul64_one (n : Nat) (hn : n ≤ 64) (w : World) :
    Calls Tryz.prog 145 #[.int .u64 1, .int .u64 n] w fun e w' => e = .returned (.tuple #[.int .u64 0, .int .u64 n]) ∧ w = w' := by
  have a1 : bits BinOp.and IntKind.u64 1 4294967295 = 1 := by decide +kernel
  have a2 := and_low n hn
  have a3 : (n : Int) / 4294967296 = 0 := by omega
  have a4 : IntKind.u64.wrap (n : Int) = (n : Int) := by revert n; decide +kernel
  have a5 : bits BinOp.and IntKind.u64 0 4294967295 = 0 := by decide +kernel
  go_enter Tryz.func145, Tryz.ntmps145
  go_wp2
  go_ret2
  exact ⟨rfl, rfl⟩
set_option maxHeartbeats 1000000 in
theorem mul_one_any (n : Nat) (hn : n ≤ 64) (w : World) :
    Calls Tryz.prog 130 #[.int .u64 1, .int .u64 n] w fun e w' => e = .returned (.tuple #[.int .u64 0, .int .u64 n]) ∧ w = w' := by
  go_enter Tryz.func130, Tryz.ntmps130
  go_wp2_with (go_at_call 145; refine (mul64_one n hn _).mono ?_; rintro e w' ⟨rfl, rfl⟩)
  go_ret2
  exact ⟨rfl, rfl⟩
/-- k numbers written, the others still as they were made -/
def repL (v : Int) (n k : Nat) : List Value := (List.replicate k (Value.int .i64 v)) ++ List.replicate (n - k) (.int .i64 0)
theorem repL_len (v : Int) {n k : Nat} (hk : k ≤ n) : (repL v n k).length = n := by unfold repL; simp; omega
theorem repL_one (v : Int) {n k m : Nat} (hm : k + m ≤ n) : splice (repL v n k) k (List.replicate m (Value.int .i64 v)) = repL v n (k + m) := by
  unfold splice repL
  have e1 : (List.replicate k (Value.int .i64 v) ++ List.replicate (n - k) (Value.int .i64 0)).take k = List.replicate k (Value.int .i64 v) := List.take_left' (by simp)
  rw [e1, List.length_replicate, List.drop_append, List.drop_of_length_le (by simp), List.nil_append, List.length_replicate, List.drop_replicate, ← List.append_assoc, List.replicate_append_replicate]
  congr 2
  omega
theorem repL_all (v : Int) (n : Nat) : repL v n n = (List.replicate n v).map (.int .i64) := by unfold repL; simp
theorem repL_get {v : Int} {n k j : Nat} {u : Value} {m : Nat} (hm : m ≤ k) (h : (List.replicate m (Value.int .i64 v))[j]? = some u) : (repL v n k)[j]? = some u := by
  have hj : j < m := by
    rcases Nat.lt_or_ge j m with h1 | h1
    · exact h1
    · rw [List.getElem?_eq_none (by simpa using h1)] at h; cases h
  rw [List.getElem?_replicate, if_pos hj] at h
  unfold repL
  rw [List.getElem?_append_left (by simp; omega), List.getElem?_replicate, if_pos (by omega)]; exact h
theorem made_row {v : Int} {w1 : World} {g n : Nat} {e : TypeId} (h : w1.ownsRow g e 1 (.slice (some ⟨g, 0, none⟩) n n) n (madeCells (Value.int .i64 0).cells (n * 1)).toList) : Hid (w1.heap[g]? = some (.cells (repL v n 0).toArray e (0, 0))) := by
  rcases h.2 with ⟨e, -⟩ | ⟨g', cap, cur, hv, hg, hh, h1, h2, h3, h4⟩
  · cases e
  · injection hv with ha hb hc
    injection ha with ha; injection ha with ha
    subst ha; subst hc
    show _ = _
    rw [hh]
    have e1 : cur.toList = repL v n 0 := by
      rw [Nat.mul_one] at h4
      rw [List.take_of_length_le (by simp; omega)] at h4
      rw [h4, show (Value.int .i64 0).cells = #[.int .i64 0] from rfl, toList_madeCells_one]
      unfold repL; simp
    rw [← e1]
theorem one_cell {w : World} {b off : Nat} {v : Int} (h : w.cell? ⟨b, off, none⟩ = some (.int .i64 v)) : ∀ j u, [Value.int .i64 v][j]? = some u → w.cell? ((⟨b, off, none⟩ : Addr).add j) = some u := by
  intro j u hu
  match j, hu with
  | 0, hu => simp at hu; subst hu; rw [add_zero']; exact h
theorem rep_run (W : World) (hsz : (Tryz.prog.info? 3).map (·.size) = some 1) (v : Int) (n k m g : Nat) (hm : m = min k (n - k)) (hk : k ≤ n) (w0 : World)
    (hg : Hid (W.heap[g]? = some (.cells (repL v n k).toArray 3 (0, 0)))) (hb : Below w0.heap.size w0 W) (hB : w0.heap.size ≤ g) :
    ∃ w', Sem.run Tryz.prog (Builtin.copy_ #[29, 29] 3 #[.slice (some ⟨g, k, none⟩) (n - k) (n - k), .slice (some ⟨g, 0, none⟩) k n]) W = .ok (.int .i64 m) w' ∧ Hid (w'.heap[g]? = some (.cells (repL v n (k + m)).toArray 3 (0, 0))) ∧ Below w0.heap.size w0 w' := by
  have h := run_copy_row (P := Tryz.prog) W 29 29 3 3 g k (n - k) (n - k) ⟨g, 0, none⟩ k n (repL v n k).toArray 3 (List.replicate m (Value.int .i64 v)) Tryz.underlying29 hsz hg.out
    (by rw [List.length_replicate]; exact hm) (fun j u hu => by
      rw [add_ofs, Nat.zero_add, cell_of_row _ _ _ _ _ _ hg.out]
      have := repL_get (n := n) (show m ≤ k by omega) hu
      simpa using this) (by rw [List.length_replicate]; simp [repL_len v hk]; omega) (by intro u hu; rw [List.eq_of_mem_replicate hu]; rfl)
  rw [List.length_replicate] at h
  refine ⟨_, h, ?_, below_setRow hb hB _⟩
  show _ = _
  rw [← repL_one v (show k + m ≤ n by omega)]
  simpa [splice] using setRow_heap W g _ ((repL v n k).take k ++ (List.replicate m (Value.int .i64 v) ++ (repL v n k).drop (k + m))).toArray 3 _ hg.out
set_option maxRecDepth 100000 in
set_option maxHeartbeats 2000000 in
theorem repeat_one (A : Option Addr) (c : Nat) (v : Int) (n : Nat) (h1 : 1 ≤ n) (hn : n ≤ 64) (w : World) (hr : Rd w A [.int .i64 v]) :
    Calls Tryz.prog 94 #[.slice A 1 c, .int .i64 n] w (NewW (List.replicate n v) w) := by
  obtain ⟨i0, hi, hz0, hz1, hz2⟩ := info_parts Tryz.infoI
  have hb1 : i0.bytes * n ≤ 281474976710656 := by rw [hz2]; omega
  have hsz : (Tryz.prog.info? 3).map (·.size) = some 1 := by rw [hi]; simp [hz1]
  have HZ := Lib.hid (And.intro hz0 (And.intro hz1 hz2))
  clear hz0 hz1 hz2
  obtain ⟨b, off, e0, hc⟩ := hr.atE (k := 0) (by simp)
  subst e0
  simp only [List.getElem_cons_zero, Nat.add_zero] at hc
  have hbw : b < w.heap.size := by have := World.block_lt_of_cell? w _ hc; simpa using this
  clear hr
  go_enter Tryz.func94, Tryz.ntmps94
  go_wp2_with (first
    | (go_at_call 130; refine (mul_one_any n hn _).mono ?_; rintro e w' ⟨rfl, rfl⟩)
    | (at_make; refine wpList_make_full _ rfl _ _ 29 rfl w.heap.size 3 i0 (.int .i64 0) 1 Tryz.underlying29 hi HZ.out.1 HZ.out.2.1 .i64 .i64 _ _ n rfl rfl rfl rfl hb1 (by unfold maxLen; omega) (Nat.le_refl _) ?_; intro w1 hown1 hgrow1; have HG := made_row (v := v) hown1; have BG := (Below.refl w.heap.size w).grown hgrow1 (Nat.le_refl _) (fun k hk => by cases hk); have hc1 := (BG.cell (p := ⟨b, off, none⟩) hbw).trans hc; clear hown1 hgrow1)
    | (refine wpList_copy_splice (o := ⟨some 33, _, _, _, _, _⟩) rfl (.tmp 31) (.tmp 32) 29 29 rfl 3 Tryz.underlying29 hsz _ _ _ _ _ _ rfl rfl w.heap.size 0 (repL v n 0) 3 HG.out [.int .i64 v] (by show 1 = min 1 n; omega) (fun _ => ⟨rfl, _, rfl, one_cell hc1⟩) (by rw [repL_len v (Nat.zero_le n)]; simp; omega) (by simp; rfl) w.heap.size w BG (Nat.le_refl _) ?_; intro w2 HG2 hB2))
  have HG2' : Hid (w2.heap[w.heap.size]? = some (.cells (repL v n 1).toArray 3 (0, 0))) := by
    have e := repL_one v (n := n) (k := 0) (m := 1) (by omega)
    rw [Nat.zero_add] at e
    show _ = _
    rw [← e]; exact HG2.out
  clear HG2 HG BG hc1 hb1 hi HZ
  go_loopw [8] (fun t8 wr => ∃ k : Nat, 1 ≤ k ∧ k ≤ n ∧ t8 = .int .i64 k ∧ Hid (wr.heap[w.heap.size]? = some (.cells (repL v n k).toArray 3 (0, 0))) ∧ Below w.heap.size w wr) (fun t8 _ => n - (intOf t8).toNat)
  case atStart => exact ⟨1, Nat.le_refl _, h1, by simp, HG2', hB2⟩
  case round =>
    clear HG2' hB2
    obtain ⟨k, k1, k2, rfl, HK, bk⟩ := hrel
    by_cases hlt : k < n
    · obtain ⟨m, hm⟩ : ∃ m, m = min k (n - k) := ⟨_, rfl⟩
      have hm1 : 1 ≤ m := by omega
      have hm3 : k + m ≤ n := by omega
      have HKd : Hid (wr.drew.heap[w.heap.size]? = some (.cells (repL v n k).toArray 3 (0, 0))) := HK
      have bkd : Below w.heap.size w wr.drew := ⟨bk.os, bk.tape, bk.output, bk.size, bk.block⟩
      obtain ⟨w4, hrun, HG4, hB4⟩ := rep_run wr.drew hsz v n k m w.heap.size hm k2 w HKd bkd (Nat.le_refl _)
      clear hm HKd bkd HK bk
      have hck : ¬ n = k := by omega
      have hkI : (k : Int) < (n : Int) := by omega
      go_wp2_with fail
      go_region
      all_goals go_wp2_with fail
      exact ⟨⟨k + m, by omega, hm3, by go_num, HG4, hB4⟩, by simp [intOf]; omega⟩
    · obtain rfl : k = n := by omega
      go_wp2
      go_ret
      refine ⟨some ⟨w.heap.size, 0, none⟩, by simp, ?_, bk⟩
      refine ⟨fun ad ha => by injection ha with ha; subst ha; exact Nat.le_refl _, fun _ => ⟨w.heap.size, _, rfl, HK.out, ?_⟩⟩
      rw [← repL_all, repL_len v (Nat.le_refl _)]
      exact List.take_of_length_le (by simp [repL_len v (Nat.le_refl k)])
end Go.Proofs.YtafmpgikdhlknaaGreat

/- Counting the bits of a number by sums of parts, plainly. -/
import Derived.Test.YtnciemnlnijhfaaMem
namespace Go.Proofs.Ytnciemnlnijhfaa

/-- how many of the first n bits are set -/
def bitsCnt (n x : Nat) : Nat := ((List.range n).filter fun i => x.testBit i).length
theorem bits_add (n x : Nat) : bitsCnt (8 + n) x = bitsCnt 8 (x % 256) + bitsCnt n (x / 256) := by
  unfold bitsCnt
  rw [List.range_add, List.filter_append, List.length_append]
  congr 1
  · congr 1
    refine List.filter_congr (fun i hi => ?_)
    rw [List.mem_range] at hi
    rw [show 256 = 2 ^ 8 from rfl, Nat.testBit_mod_two_pow]
    simp [hi]
  · rw [List.filter_map, List.length_map]
    congr 1
    refine List.filter_congr (fun i _ => ?_)
    show x.testBit (8 + i) = (x / 256).testBit i
    rw [show 256 = 2 ^ 8 from rfl, Nat.testBit_div_two_pow, Nat.add_comm]
theorem land_split (x m : Nat) : x &&& m = ((x % 256) &&& (m % 256)) + 256 * ((x / 256) &&& (m / 256)) := by
  have h1 : (x &&& m) % 256 = (x % 256) &&& (m % 256) := Nat.and_mod_two_pow (n := 8)
  have h2 : (x &&& m) / 256 = (x / 256) &&& (m / 256) := Nat.and_div_two_pow (n := 8)
  have := Nat.mod_add_div (x &&& m) 256
  omega
/-- n bytes of a mask -/
def msk (c : Nat) : Nat → Nat
  | 0 => 0
  | n + 1 => c + 256 * msk c n
theorem msk_mod (c n : Nat) (h : c < 256) : msk c (n + 1) % 256 = c ∧ msk c (n + 1) / 256 = msk c n := by
  show (c + 256 * msk c n) % 256 = c ∧ (c + 256 * msk c n) / 256 = msk c n
  omega
def pa (n x : Nat) : Nat := ((x / 2) &&& msk 0x55 n) + (x &&& msk 0x55 n)
def pb (n x : Nat) : Nat := ((x / 4) &&& msk 0x33 n) + (x &&& msk 0x33 n)
def pc (n x : Nat) : Nat := (x / 16 + x) &&& msk 0x0f n
def ga (b : Nat) : Nat := ((b / 2) &&& 0x55) + (b &&& 0x55)
def gb (b : Nat) : Nat := ((b / 4) &&& 0x33) + (b &&& 0x33)
def gc (b : Nat) : Nat := b / 16 + b % 16
theorem ga_lo : ∀ y, y < 512 → ((y / 2) % 256 &&& 0x55) = (y % 256 / 2 &&& 0x55) := by decide +kernel
theorem gb_lo : ∀ y, y < 1024 → ((y / 4) % 256 &&& 0x33) = (y % 256 / 4 &&& 0x33) := by decide +kernel
theorem ga_bd : ∀ b, b < 256 → ga b ≤ 170 := by decide +kernel
theorem gb_bd : ∀ b, b < 256 → gb (ga b) ≤ 68 ∧ gb (ga b) % 16 ≤ 4 := by decide +kernel
theorem gc_eq : ∀ b, b < 256 → gc (gb (ga b)) = bitsCnt 8 b ∧ gc (gb (ga b)) ≤ 8 := by decide +kernel
theorem pa_next (n x : Nat) : pa (n + 1) x = ga (x % 256) + 256 * pa n (x / 256) := by
  unfold pa ga
  rw [land_split (x / 2), land_split x, (msk_mod 0x55 n (by omega)).1, (msk_mod 0x55 n (by omega)).2]
  have h := ga_lo (x % 512) (by omega)
  rw [show x % 512 / 2 % 256 = x / 2 % 256 by omega, show x % 512 % 256 = x % 256 by omega] at h
  rw [h, show x / 2 / 256 = x / 256 / 2 by omega]
  omega
theorem pb_next (n x : Nat) : pb (n + 1) x = gb (x % 256) + 256 * pb n (x / 256) := by
  unfold pb gb
  rw [land_split (x / 4), land_split x, (msk_mod 0x33 n (by omega)).1, (msk_mod 0x33 n (by omega)).2]
  have h := gb_lo (x % 1024) (by omega)
  rw [show x % 1024 / 4 % 256 = x / 4 % 256 by omega, show x % 1024 % 256 = x % 256 by omega] at h
  rw [h, show x / 4 / 256 = x / 256 / 4 by omega]
  omega
theorem pc_next (n x : Nat) (h0 : x % 16 ≤ 4) (h1 : x % 256 ≤ 68) (h2 : x / 256 % 16 ≤ 4) : pc (n + 1) x = gc (x % 256) + 256 * pc n (x / 256) := by
  unfold pc gc
  rw [land_split (x / 16 + x), (msk_mod 0x0f n (by omega)).1, (msk_mod 0x0f n (by omega)).2]
  have e1 : (x / 16 + x) / 256 = x / 256 / 16 + x / 256 := by omega
  have e2 : ((x / 16 + x) % 256 &&& 15) = x % 256 / 16 + x % 256 % 16 := by
    rw [show (15 : Nat) = 2 ^ 4 - 1 from rfl, Nat.and_two_pow_sub_one_eq_mod]
    show (x / 16 + x) % 256 % 16 = _
    omega
  rw [e1, e2]
def pAll (n x : Nat) : Nat := pc n (pb n (pa n x))
theorem pAll_next (n x : Nat) : pAll (n + 1) x = bitsCnt 8 (x % 256) + 256 * pAll n (x / 256) ∧ bitsCnt 8 (x % 256) ≤ 8 := by
  have hb : x % 256 < 256 := by omega
  have a1 := ga_bd _ hb
  have b1 := gb_bd _ hb
  have c1 := gc_eq _ hb
  refine ⟨?_, by omega⟩
  unfold pAll
  have e1 : pa (n + 1) x % 256 = ga (x % 256) ∧ pa (n + 1) x / 256 = pa n (x / 256) := by rw [pa_next]; omega
  have e2 : pb (n + 1) (pa (n + 1) x) = gb (ga (x % 256)) + 256 * pb n (pa n (x / 256)) := by rw [pb_next, e1.1, e1.2]
  have e3 : pb (n + 1) (pa (n + 1) x) % 256 = gb (ga (x % 256)) ∧ pb (n + 1) (pa (n + 1) x) / 256 = pb n (pa n (x / 256)) := by rw [e2]; omega
  have h2 : pb n (pa n (x / 256)) % 16 ≤ 4 := by
    cases n with
    | zero => simp [pb, msk]
    | succ m =>
      have hb' : x / 256 % 256 < 256 := by omega
      have a2 := ga_bd _ hb'
      have b2 := gb_bd _ hb'
      have e : pa (m + 1) (x / 256) % 256 = ga (x / 256 % 256) := by rw [pa_next]; omega
      rw [pb_next, e]
      omega
  rw [pc_next n _ (by have := b1.2; have := e3.1; omega) (by rw [e3.1]; exact b1.1) (by rw [e3.2]; exact h2), e3.1, e3.2, c1.1]
set_option maxHeartbeats 4000000 in
/-- the whole of it, at eight bytes -/
theorem pop_sum (x x3 : Nat) (h3 : x3 = pAll 8 x) :
    x3 ≤ 0x0808080808080808 ∧ (x3 + x3 / 256 + (x3 + x3 / 256) / 65536 + (x3 + x3 / 256 + (x3 + x3 / 256) / 65536) / 4294967296) % 128 = bitsCnt 64 x := by
  have f1 := pAll_next 7 x
  have f2 := pAll_next 6 (x / 256)
  have f3 := pAll_next 5 (x / 256 / 256)
  have f4 := pAll_next 4 (x / 256 / 256 / 256)
  have f5 := pAll_next 3 (x / 256 / 256 / 256 / 256)
  have f6 := pAll_next 2 (x / 256 / 256 / 256 / 256 / 256)
  have f7 := pAll_next 1 (x / 256 / 256 / 256 / 256 / 256 / 256)
  have f8 := pAll_next 0 (x / 256 / 256 / 256 / 256 / 256 / 256 / 256)
  have z : pAll 0 (x / 256 / 256 / 256 / 256 / 256 / 256 / 256 / 256) = 0 := by simp [pAll, pc, msk]
  have g1 := bits_add 56 x
  have g2 := bits_add 48 (x / 256)
  have g3 := bits_add 40 (x / 256 / 256)
  have g4 := bits_add 32 (x / 256 / 256 / 256)
  have g5 := bits_add 24 (x / 256 / 256 / 256 / 256)
  have g6 := bits_add 16 (x / 256 / 256 / 256 / 256 / 256)
  have g7 := bits_add 8 (x / 256 / 256 / 256 / 256 / 256 / 256)
  have g8 := bits_add 0 (x / 256 / 256 / 256 / 256 / 256 / 256 / 256)
  have z2 : bitsCnt 0 (x / 256 / 256 / 256 / 256 / 256 / 256 / 256 / 256) = 0 := rfl
  simp only [Nat.reduceAdd] at f1 f2 f3 f4 f5 f6 f7 f8 g1 g2 g3 g4 g5 g6 g7 g8
  generalize bitsCnt 8 (x % 256) = p0 at *
  generalize bitsCnt 8 (x / 256 % 256) = p1 at *
  generalize bitsCnt 8 (x / 256 / 256 % 256) = p2 at *
  generalize bitsCnt 8 (x / 256 / 256 / 256 % 256) = p3 at *
  generalize bitsCnt 8 (x / 256 / 256 / 256 / 256 % 256) = p4 at *
  generalize bitsCnt 8 (x / 256 / 256 / 256 / 256 / 256 % 256) = p5 at *
  generalize bitsCnt 8 (x / 256 / 256 / 256 / 256 / 256 / 256 % 256) = p6 at *
  generalize bitsCnt 8 (x / 256 / 256 / 256 / 256 / 256 / 256 / 256 % 256) = p7 at *
  have e3 : x3 = p0 + 256 * (p1 + 256 * (p2 + 256 * (p3 + 256 * (p4 + 256 * (p5 + 256 * (p6 + 256 * p7)))))) := by omega
  have eb : bitsCnt 64 x = p0 + p1 + p2 + p3 + p4 + p5 + p6 + p7 := by omega
  rw [eb]
  obtain ⟨-, q0⟩ := f1
  obtain ⟨-, q1⟩ := f2
  obtain ⟨-, q2⟩ := f3
  obtain ⟨-, q3⟩ := f4
  obtain ⟨-, q4⟩ := f5
  obtain ⟨-, q5⟩ := f6
  obtain ⟨-, q6⟩ := f7
  obtain ⟨-, q7⟩ := f8
  clear z z2 h3 eb g1 g2 g3 g4 g5 g6 g7 g8
  subst e3
  refine ⟨by omega, ?_⟩
  have e4 : (p0 + 256 * (p1 + 256 * (p2 + 256 * (p3 + 256 * (p4 + 256 * (p5 + 256 * (p6 + 256 * p7))))))) / 256 = p1 + 256 * (p2 + 256 * (p3 + 256 * (p4 + 256 * (p5 + 256 * (p6 + 256 * p7))))) := by omega
  rw [e4]
  generalize hx4 : p0 + 256 * (p1 + 256 * (p2 + 256 * (p3 + 256 * (p4 + 256 * (p5 + 256 * (p6 + 256 * p7)))))) + (p1 + 256 * (p2 + 256 * (p3 + 256 * (p4 + 256 * (p5 + 256 * (p6 + 256 * p7)))))) = x4
  have e5 : x4 / 65536 = (p2 + p3) + 256 * (p3 + p4) + 65536 * ((p4 + p5) + 256 * (p5 + p6)) + 4294967296 * ((p6 + p7) + 256 * p7) := by omega
  rw [e5]
  generalize hx5 : x4 + ((p2 + p3) + 256 * (p3 + p4) + 65536 * ((p4 + p5) + 256 * (p5 + p6)) + 4294967296 * ((p6 + p7) + 256 * p7)) = x5
  have e6 : x5 / 4294967296 = (p4 + p5 + p6 + p7) + 256 * (p5 + p6 + p7) + 65536 * (p6 + p7 + 256 * p7) := by omega
  rw [e6]
  omega
end Go.Proofs.Ytnciemnlnijhfaa

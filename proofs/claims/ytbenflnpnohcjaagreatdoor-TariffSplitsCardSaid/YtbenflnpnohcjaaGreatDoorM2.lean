/- Arguments in memory: rows of four integers, rows of integers. The reference's tariff made of integers: Made. The reference's tariff made of integers: the walk of Made. -/
import Derived.Test.YtbenflnpnohcjaaGreatDoorProg
import Derived.WalkKit
import Derived.ProofKit
import Derived.OpenShut
import Derived.Deep.Slices
import Derived.Test.YtbenflnpnohcjaaGreatDoorL2
import Derived.StillTailTactics
import Derived.Maps.AppendAt
import Derived.Deep.RegionHeld3
import Derived.Deep.CutRange
namespace Go.Proofs.YtbenflnpnohcjaaGreatDoor
open Go.ChangeShapes Go.WideShapes Go.ChangeAt Go.RowKit

theorem addr_plain (b off i : Nat) : (⟨b, off, none⟩ : Addr).add i = ⟨b, off + i, none⟩ := by
  unfold Addr.add
  split
  · rename_i h; subst h; rfl
  · rfl
/-- Rows of four integers in memory. -/
def XsAt (w : World) (A : Option Addr) (n : Nat) (y : Nat → Nat → Int) : Prop :=
  n = 0 ∨ ∃ b off, A = some ⟨b, off, none⟩ ∧ b < w.heap.size ∧ ∀ i, i < n → ∀ j, j < 4 → w.cell? ⟨b, off + i * 4 + j, none⟩ = some (.int .i64 (y i j)) ∧ -9223372036854775808 ≤ y i j ∧ y i j ≤ 9223372036854775807
theorem XsAt.below {w w' : World} {A : Option Addr} {n : Nat} {y : Nat → Nat → Int} (h : XsAt w A n y) (hb : Below w.heap.size w w') : XsAt w' A n y := by
  rcases h with h | ⟨b, off, h1, h2, h3⟩
  · exact .inl h
  · exact .inr ⟨b, off, h1, Nat.lt_of_lt_of_le h2 hb.size, fun i hi j hj => ⟨(hb.cell (p := ⟨b, off + i * 4 + j, none⟩) h2).trans (h3 i hi j hj).1, (h3 i hi j hj).2⟩⟩

theorem Tryz.cells3 : Tryz.prog.cellsOf 3 = 1 := by kernel_rfl
theorem Tryz.cells78 : Tryz.prog.cellsOf 78 = 4 := by kernel_rfl

set_option maxRecDepth 100000 in
/-- A slice of rows of four integers, opened. -/
theorem open_rows4 {H : Type} {enc : TypeId × Value → H} {W : World} {v : Value} {d : DataW H} {ps : List MemPlace} {r : Reach} {b0 : Nat} (hval : Value.okWide Tryz.prog W r b0 22 v) (h : DataW.Trod enc Tryz.prog W 0 (fun _ => true) true 22 v d ps) :
    ∃ A n c y, v = .slice A n c ∧ XsAt W A n y ∧ n ≤ 9223372036854775807 := by
  obtain ⟨a0, len, cap, rfl⟩ := okWide_slice Tryz.underlying22 hval
  obtain ⟨fuel, hf⟩ := h
  rcases Deep.open_slice Tryz.underlying22 hf with ⟨hcs, -⟩ | ⟨a, len', cap', m, n, D, Pl, hcs, -, hl, hm, hmm, -, hx⟩
  · simp [Value.cells] at hcs
    obtain ⟨rfl, rfl, rfl⟩ := hcs
    exact ⟨none, 0, 0, fun _ _ => 0, rfl, .inl rfl, by omega⟩
  · simp [Value.cells] at hcs
    obtain ⟨rfl, rfl, rfl⟩ := hcs
    simp at hmm
    unfold maxLen at hm
    have hall : ∀ i, i < len → ∀ j, j < 4 → ∃ z, W.cell? (a.add (i * 4 + j)) = some (.int .i64 z) ∧ -9223372036854775808 ≤ z ∧ z ≤ 9223372036854775807 := by
      intro i hi j hj
      obtain ⟨cs', h1, h2⟩ := hx i (by omega)
      rw [Tryz.cells78] at h1
      obtain ⟨-, hlen, hc⟩ := World.cells?_some h1
      obtain ⟨xs, q, -, -, -, hxl, hel⟩ := DataW.trod_array Tryz.underlying78 h2
      have hj' := hel j hj
      rw [Tryz.cells3, Nat.mul_one] at hj'
      rw [List.getElem?_eq_getElem (by omega)] at hj'
      obtain ⟨z, hz, -, hw⟩ := DataW.trod_int Tryz.underlying3 hj'
      have hcj := hc j hj
      rw [Deep.add_add] at hcj
      have e : cs'[j]? = some (.int .i64 z) := by
        have hd : (cs'.drop j).take 1 = [.int .i64 z] := hz
        have : cs'[j]? = ((cs'.drop j).take 1)[0]? := by simp
        rw [this, hd]; rfl
      exact ⟨z, hcj.trans e, bounds_i64 hw⟩
    by_cases h0 : len = 0
    · subst h0
      exact ⟨some a, 0, cap, fun _ _ => 0, rfl, .inl rfl, by omega⟩
    · have hs : a.spot = none := by
        obtain ⟨z, hz, -⟩ := hall 0 (by omega) 0 (by omega)
        simpa [Addr.add] using World.cell?_spot hz
      obtain ⟨b, off, sp⟩ := a
      obtain rfl : sp = none := hs
      have hblk : b < W.heap.size := by
        obtain ⟨z, hz, -⟩ := hall 0 (by omega) 0 (by omega)
        exact World.block_lt_of_cell? W _ hz
      refine ⟨some ⟨b, off, none⟩, len, cap, fun i j => if h : i < len ∧ j < 4 then (hall i h.1 j h.2).choose else 0, rfl, .inr ⟨b, off, rfl, hblk, ?_⟩, by omega⟩
      intro i hi j hj
      have hs := (hall i hi j hj).choose_spec
      simp only [dif_pos (And.intro hi hj)]
      refine ⟨?_, hs.2⟩
      have h5 := hs.1
      have e : (⟨b, off + i * 4 + j, none⟩ : Addr) = (⟨b, off, none⟩ : Addr).add (i * 4 + j) := by rw [addr_plain, Nat.add_assoc]
      exact (congrArg W.cell? e).trans h5

/-- Rows of integers in memory. -/
def IsAt (w : World) (A : Option Addr) (n : Nat) (y : Nat → Int) : Prop :=
  n = 0 ∨ ∃ b off, A = some ⟨b, off, none⟩ ∧ b < w.heap.size ∧ ∀ i, i < n → w.cell? ⟨b, off + i, none⟩ = some (.int .i64 (y i)) ∧ -9223372036854775808 ≤ y i ∧ y i ≤ 9223372036854775807
theorem IsAt.below {w w' : World} {A : Option Addr} {n : Nat} {y : Nat → Int} (h : IsAt w A n y) (hb : Below w.heap.size w w') : IsAt w' A n y := by
  rcases h with h | ⟨b, off, h1, h2, h3⟩
  · exact .inl h
  · exact .inr ⟨b, off, h1, Nat.lt_of_lt_of_le h2 hb.size, fun i hi => ⟨(hb.cell (p := ⟨b, off + i, none⟩) h2).trans (h3 i hi).1, (h3 i hi).2⟩⟩
set_option maxRecDepth 100000 in
theorem open_row {H : Type} {enc : TypeId × Value → H} {W : World} {v : Value} {d : DataW H} {ps : List MemPlace} {r : Reach} {b0 : Nat} {t : TypeId} (ht : Tryz.prog.underlying t = some (.slice 3)) (hval : Value.okWide Tryz.prog W r b0 t v) (h : DataW.Trod enc Tryz.prog W 0 (fun _ => true) true t v d ps) :
    ∃ A n c y, v = .slice A n c ∧ IsAt W A n y ∧ n ≤ 9223372036854775807 := by
  obtain ⟨a0, len, cap, rfl⟩ := okWide_slice ht hval
  obtain ⟨fuel, hf⟩ := h
  rcases open_ints ht Tryz.underlying3 Tryz.cells3 hf with ⟨hcs, -⟩ | ⟨a, len', cap', zs, hcs, -, hl, hm, hz, -, hcell, hwz⟩
  · simp [Value.cells] at hcs
    obtain ⟨rfl, rfl, rfl⟩ := hcs
    exact ⟨none, 0, 0, fun _ => 0, rfl, .inl rfl, by omega⟩
  · simp [Value.cells] at hcs
    obtain ⟨rfl, rfl, rfl⟩ := hcs
    simp at hz
    unfold maxLen at hm
    by_cases h0 : len = 0
    · subst h0
      exact ⟨some a, 0, cap, fun _ => 0, rfl, .inl rfl, by omega⟩
    · have hs : a.spot = none := by simpa [Addr.add] using World.cell?_spot (hcell 0 (by omega))
      obtain ⟨b, off, sp⟩ := a
      obtain rfl : sp = none := hs
      refine ⟨some ⟨b, off, none⟩, len, cap, fun i => zs.getD i 0, rfl, .inr ⟨b, off, rfl, World.block_lt_of_cell? W _ (hcell 0 (by omega)), ?_⟩, by omega⟩
      intro i hi
      refine ⟨by rw [← addr_plain]; exact hcell i (by omega), ?_⟩
      refine bounds_i64 (hwz _ ?_)
      show zs.getD i 0 ∈ zs
      rw [List.getD_eq_getElem?_getD, List.getElem?_eq_getElem (by omega)]
      exact List.getElem_mem _
end Go.Proofs.YtbenflnpnohcjaaGreatDoor

namespace Go.Proofs.YtbenflnpnohcjaaGreatDoor
open Go.RowKit Go.Shelf

namespace Tf
/-- What pick makes of an integer. -/
def pk (x n : Int) : Int := if x < 0 then Int.tmod (-(x + 1)) n else Int.tmod x n
theorem pk_range (x : Int) {n : Int} (hn : 0 < n) : 0 ≤ pk x n ∧ pk x n < n := by
  unfold pk
  split
  · rw [Int.tmod_eq_emod_of_nonneg (by omega)]
    exact ⟨Int.emod_nonneg _ (by omega), Int.emod_lt_of_pos _ hn⟩
  · rw [Int.tmod_eq_emod_of_nonneg (by omega)]
    exact ⟨Int.emod_nonneg _ (by omega), Int.emod_lt_of_pos _ hn⟩
/-- The rate that four integers determine. -/
def mkRate (a b c d : Int) : Rate :=
  if pk (Int.tdiv b 24) 4 = 3 then ⟨1 + pk a 127, pk b 86400, pk b 86400 + 1 + pk c (86400 - pk b 86400), pk d 1000⟩
  else ⟨1 + pk a 127, 3600 * pk b 24, min (3600 * pk b 24 + 3600 * (1 + pk c 24)) 86400, pk d 1000⟩
theorem mkRate_ok (a b c d : Int) : okRate (mkRate a b c d) = true := by
  rw [okRate_iff]
  have h1 := pk_range a (n := 127) (by decide)
  have h2 := pk_range b (n := 24) (by decide)
  have h3 := pk_range c (n := 24) (by decide)
  have h4 := pk_range d (n := 1000) (by decide)
  have h5 := pk_range b (n := 86400) (by decide)
  have h6 := pk_range c (n := 86400 - pk b 86400) (by omega)
  unfold mkRate
  split
  · simp only
    omega
  · simp only
    omega
def mkRates (y : Nat → Nat → Int) (k : Nat) : List Rate := (List.range k).map fun i => mkRate (y i 0) (y i 1) (y i 2) (y i 3)
theorem mkRates_length (y : Nat → Nat → Int) (k : Nat) : (mkRates y k).length = k := by simp [mkRates]
theorem mkRates_succ (y : Nat → Nat → Int) (k : Nat) : mkRates y (k + 1) = mkRates y k ++ [mkRate (y k 0) (y k 1) (y k 2) (y k 3)] := by simp [mkRates, List.range_succ]
/-- The tariff that a base and rows of four integers determine. -/
def made (b : Int) (n : Nat) (y : Nat → Nat → Int) : Tariff := ⟨mkRates y (min n 6), pk b 1000⟩
theorem made_ok (b : Int) (n : Nat) (y : Nat → Nat → Int) : okT (made b n y) = true := by
  rw [okT_iff]
  have h1 := pk_range b (n := 1000) (by decide)
  refine ⟨⟨h1.1, by show pk b 1000 ≤ _; omega⟩, by show (mkRates y (min n 6)).length ≤ 10; rw [mkRates_length]; omega, ?_⟩
  intro r hr
  obtain ⟨i, -, rfl⟩ := List.mem_map.1 (show r ∈ mkRates y (min n 6) from hr)
  exact mkRate_ok _ _ _ _
end Tf

theorem pick_eq (x n : Int) (h0 : -9223372036854775808 ≤ x) (h1 : x ≤ 9223372036854775807) (hn : 0 < n) (hn2 : n ≤ 1000000000) (w : World) :
    Calls Tryz.prog 46 #[.int .i64 x, .int .i64 n] w fun e w' => e = .returned (.int .i64 (Tf.pk x n)) ∧ w' = w := by
  have hnz : (n == 0) = false := by rw [beq_eq_false_iff_ne]; omega
  have hn1 : (n == -1) = false := by rw [beq_eq_false_iff_ne]; omega
  obtain ⟨r, hr⟩ : ∃ r, Tf.pk x n = r := ⟨_, rfl⟩
  have hrr := Tf.pk_range x hn
  rw [hr] at hrr ⊢
  unfold Tf.pk at hr
  by_cases hx : x < 0
  · rw [if_pos hx] at hr
    obtain ⟨y, hy⟩ : ∃ y, -(x + 1) = y := ⟨_, rfl⟩
    have hy0 : 0 ≤ y ∧ y ≤ 9223372036854775807 := by omega
    rw [hy] at hr
    go_enter Tryz.func46, Tryz.ntmps46
    go_wp2
    go_ret
    exact ⟨rfl, rfl⟩
  · rw [if_neg hx] at hr
    go_enter Tryz.func46, Tryz.ntmps46
    go_wp2
    go_ret
    exact ⟨rfl, rfl⟩
end Go.Proofs.YtbenflnpnohcjaaGreatDoor

namespace Go.Proofs.YtbenflnpnohcjaaGreatDoor
open Go.RowKit Go.Shelf

/-- Rates, cell by cell. -/
def flatR (l : List Tf.Rate) : List Value := l.flatMap fun r => [.int .i64 r.days, .int .i64 r.frm, .int .i64 r.til, .int .i64 r.price]
theorem flatR_append (l m : List Tf.Rate) : flatR (l ++ m) = flatR l ++ flatR m := by simp [flatR]

theorem sc_row (W : World) (B i : Nat) (v : Value) {c : Array Value} {t : TypeId} (h : W.heap[B]? = some (.cells c t (0, 0))) : (W.setCell ⟨B, i, none⟩ v).heap[B]? = some (.cells (c.setIfInBounds i v) t (0, 0)) := sc_at W ⟨B, i, none⟩ v rfl h
theorem row_cells {W : World} {B : Nat} {v0 v1 v2 v3 : Value} {t : TypeId} (h : W.heap[B]? = some (.cells #[v0, v1, v2, v3] t (0, 0))) :
    W.cell? ⟨B, 0, none⟩ = some v0 ∧ W.cell? ⟨B, 1, none⟩ = some v1 ∧ W.cell? ⟨B, 2, none⟩ = some v2 ∧ W.cell? ⟨B, 3, none⟩ = some v3 ∧ ∀ i, W.frozen? ⟨B, i, none⟩ = false := by
  refine ⟨by simp [World.cell?, h], by simp [World.cell?, h], by simp [World.cell?, h], by simp [World.cell?, h], fun i => by simp [World.frozen?, h]⟩

theorem Tryz.info68 : (Tryz.prog.info? 68).map (fun i => (i.zero, i.size, i.bytes)) = some (some (.agg #[.int .i64 0, .int .i64 0, .int .i64 0, .int .i64 0]), 4, 32) := by kernel_rfl

/-- Rates as the reference makes them. -/
def okR (r : Tf.Rate) : Prop := Tf.okRate r = true ∧ r.price < 1000
theorem flatR_get (l : List Tf.Rate) (j i : Nat) (hj : j < l.length) (hi : i < 4) : (flatR l)[j * 4 + i]? = (encR l[j]!)[i]? := by
  obtain ⟨l1, l2, p, rfl, hl1⟩ : ∃ l1 l2 p, l = l1 ++ p :: l2 ∧ l1.length = j := ⟨l.take j, l.drop (j + 1), l[j], by rw [List.getElem_cons_drop hj, List.take_append_drop], by simp; omega⟩
  have hf : ∀ m : List Tf.Rate, (flatR m).length = m.length * 4 := by
    intro m
    induction m with
    | nil => rfl
    | cons q m ih => simp only [flatR, List.flatMap_cons, List.length_append, List.length_cons, List.length_nil] at ih ⊢; omega
  subst hl1
  rw [flatR_append, List.getElem?_append_right (by rw [hf]; omega), hf, show l1.length * 4 + i - l1.length * 4 = i by omega]
  have e : flatR (p :: l2) = encR p ++ flatR l2 := rfl
  rw [e, List.getElem?_append_left (by simp [encR]; omega), getElem!_pos _ _ (by simp)]
  simp
theorem ratesAt_own {w : World} {base : Nat} {v : Value} {l : List Tf.Rate} (h : w.ownsRow base 68 4 v l.length (flatR l)) : ∃ A c, v = .slice A l.length c ∧ RatesAt w A l := by
  rcases h.2 with ⟨h1, h2⟩ | ⟨g, cap, cur, h1, h2, h3, _⟩
  · exact ⟨none, 0, by rw [h1, h2], .inl (List.eq_nil_of_length_eq_zero h2)⟩
  · refine ⟨some ⟨g, 0, none⟩, cap, h1, .inr ⟨g, 0, rfl, (Array.getElem?_eq_some_iff.1 h3).1, ?_⟩⟩
    intro j hj i x hi
    rw [h1] at h
    have hi4 : i < 4 := by
      have := (List.getElem?_eq_some_iff.1 hi).1
      simpa [encR] using this
    have hc := h.cellAt (j * 4 + i) (by omega)
    rw [flatR_get l j i hj hi4, hi] at hc
    rw [show 0 + j * 4 + i = j * 4 + i by omega]
    exact hc

theorem okR_snoc {l : List Tf.Rate} {q : Tf.Rate} (h : ∀ r ∈ l, okR r) (hq : okR q) : ∀ r ∈ l ++ [q], okR r := by
  intro r hr
  rcases List.mem_append.1 hr with h' | h'
  · exact h r h'
  · rw [List.mem_singleton.1 h']; exact hq
/-- What a round of Made keeps. -/
structure MdI (w wr : World) (bv : Int) (k : Nat) : Prop where
  below : Below w.heap.size w wr
  c4 : wr.heap[w.heap.size]? = some (.cells #[.slice none 0 0, .int .i64 0] 26 (0, 0))
  row : ∃ v l, wr.heap[w.heap.size + 1]? = some (.cells #[v, .int .i64 bv] 26 (0, 0)) ∧ l.length = k ∧ (∀ r ∈ l, okR r) ∧ wr.ownsRow (w.heap.size + 2) 68 4 v k (flatR l)

/-- The rate's own block behind the rate's making. -/
def RateIn (W5 wx : World) : Prop := Below W5.heap.size W5 wx ∧ ∃ d f t p : Int, okR ⟨d, f, t, p⟩ ∧ wx.heap[W5.heap.size]? = some (.cells #[.int .i64 d, .int .i64 f, .int .i64 t, .int .i64 p] 68 (0, 0))

theorem cell_four_new (w : World) (a b c d : Value) (t : TypeId) : ∀ j u, [a, b, c, d][j]? = some u → (w.alloc (.cells #[a, b, c, d] t)).cell? ((⟨w.heap.size, 0, none⟩ : Addr).add j) = some u := by
  intro j u hj
  match j, hj with
  | 0, hj => simp at hj; subst hj; simp [Addr.add]
  | 1, hj => simp at hj; subst hj; simp [Addr.add]
  | 2, hj => simp at hj; subst hj; simp [Addr.add]
  | 3, hj => simp at hj; subst hj; simp [Addr.add]

/-- What Made leaves: a valid tariff of at most six rates, its prices below 1000. -/
def MadeR (w : World) (e : Ending) (w' : World) : Prop :=
  (∃ x : Tf.Tariff, Tf.okT x = true ∧ x.base < 1000 ∧ (∀ r ∈ x.rates, r.price < 1000) ∧ x.rates.length ≤ 6 ∧ ∃ A' c', e = .returned (.agg #[.slice A' x.rates.length c', .int .i64 x.base]) ∧ RatesAt w' A' x.rates) ∧ Below w.heap.size w w'
theorem madeR_of {w wr : World} {bv : Int} {k : Nat} {v : Value} {l : List Tf.Rate} {A : Option Addr} {c : Nat} (hb : 0 ≤ bv ∧ bv < 1000) (hk : k ≤ 6) (hl1 : l.length = k) (hl2 : ∀ r ∈ l, okR r) (hv : v = .slice A l.length c)
    (hown : wr.ownsRow (w.heap.size + 2) 68 4 v k (flatR l)) (hbw : Below w.heap.size w wr) (u0 u1 : Value) : MadeR w (.returned (.agg #[.slice A l.length c, .int .i64 bv])) ((wr.setCell ⟨w.heap.size, 0, none⟩ u0).setCell ⟨w.heap.size, 1, none⟩ u1) := by
  have h1 := ownsRow_setCell_below (ownsRow_setCell_below hown (a := ⟨w.heap.size, 0, none⟩) (by show w.heap.size < _; omega) u0) (a := ⟨w.heap.size, 1, none⟩) (by show w.heap.size < _; omega) u1
  rw [← hl1] at h1
  obtain ⟨A2, c2, hv2, hR⟩ := ratesAt_own h1
  rw [hv] at hv2
  injection hv2 with e1 _ e3
  subst e1
  refine ⟨⟨⟨l, bv⟩, ?_, hb.2, fun r hr => (hl2 r hr).2, by show l.length ≤ 6; omega, A, c, rfl, hR⟩, ((hbw.setCell (p := ⟨w.heap.size, 0, none⟩) (Nat.le_refl _) _).setCell (p := ⟨w.heap.size, 1, none⟩) (Nat.le_refl _) _)⟩
  rw [Tf.okT_iff]
  exact ⟨⟨hb.1, by show bv ≤ _; omega⟩, by show l.length ≤ 10; omega, fun r hr => (hl2 r hr).1⟩

/-- append's new value stored back into the first cell of a block that lies below the row. -/
theorem appF {W w1 : World} {B base e size n n' : Nat} {v v' x : Value} {t : TypeId} {xs xs' : List Value} {tmp : Obj} {H : Nat} (hv : W.heap[B]? = some (.cells #[v, x] t (0, 0))) (hrow : W.ownsRow base e size v n xs) (hB : B < base) (hH : H ≤ B)
    (hown' : w1.ownsRow base e size v' n' xs') (hgrow : (W.alloc tmp).grownBy w1 v.ownBlock) (hbase : base ≤ W.heap.size) :
    w1.heap[B]? = some (.cells #[v, x] t (0, 0)) ∧ (w1.setCell ⟨B, 0, none⟩ v').heap[B]? = some (.cells #[v', x] t (0, 0)) ∧ (w1.setCell ⟨B, 0, none⟩ v').ownsRow base e size v' n' xs' ∧ Below H W (w1.setCell ⟨B, 0, none⟩ v') ∧ (∀ k, k < base → k ≠ B → (w1.setCell ⟨B, 0, none⟩ v').heap[k]? = W.heap[k]?) := by
  have hlt : ∀ k, v.ownBlock = some k → base ≤ k := fun k hk => (hrow.lt k hk).1
  have hz : B < (W.alloc tmp).heap.size := by simp; omega
  have h1 : w1.heap[B]? = some (.cells #[v, x] t (0, 0)) := by
    rw [hgrow.block B hz (fun e => by have := hlt B e.symm; omega), heap_past' _ _ (by omega)]; exact hv
  have h2 : (w1.setCell ⟨B, 0, none⟩ v').heap[B]? = some (.cells #[v', x] t (0, 0)) := sc_at w1 ⟨B, 0, none⟩ v' rfl h1
  refine ⟨h1, h2, ownsRow_setCell_below hown' hB _, ?_, ?_⟩
  · exact (((Below.refl H W).alloc (by omega) tmp).grown hgrow (by simp; omega) (fun k hk => by have := hlt k hk; omega)).setCell (p := ⟨B, 0, none⟩) hH _
  · intro k hk hne
    rw [Below.heap_setCell _ _ _ _ hne, hgrow.block k (by simp; omega) (fun e => by have := hlt k e.symm; omega), heap_past' _ _ (by omega)]

set_option maxRecDepth 100000 in
set_option maxHeartbeats 2000000 in
theorem made_any (A : Option Addr) (n c : Nat) (y : Nat → Nat → Int) (bs : Int) (hb0 : -9223372036854775808 ≤ bs) (hb1 : bs ≤ 9223372036854775807) (w : World) (hX : XsAt w A n y) (hn : n ≤ 9223372036854775807) :
    Calls Tryz.prog 15 #[.int .i64 bs, .slice A n c] w fun e w' => MadeR w e w' := by
  have HB := Lib.hid (fun W => pick_eq bs 1000 hb0 hb1 (by decide) (by decide) W)
  have hbr := Tf.pk_range bs (n := 1000) (by decide)
  obtain ⟨bv, hbv⟩ : ∃ bv, Tf.pk bs 1000 = bv := ⟨_, rfl⟩
  rw [hbv] at HB hbr
  have HBR := Lib.hid hbr
  have HX := Lib.hid hX
  clear hX hb0 hb1 hbv hbr
  go_enter Tryz.func15, Tryz.ntmps15
  go_wp2_with (go_at_call 46; (with_reducible refine (HB.out _).mono ?_); rintro e wz ⟨rfl, rfl⟩)
  go_loopw [6] (fun si wr => ∃ k : Nat, si = .int .i64 (k : Int) ∧ k ≤ n ∧ k ≤ 6 ∧ Aside (MdI w wr bv k)) (fun si _ => 6 - (intOf si).toNat)
  case atStart =>
    refine ⟨0, rfl, Nat.zero_le _, by omega, ?_⟩
    exact ⟨below_al2 _ _ _, (heap_past' _ _ (by simp)).trans (heap_at' _ _ rfl), _, [], heap_at' _ _ (by simp), rfl, (fun r hr => by cases hr), World.ownsRow_nil _ _ _ _⟩
  case round =>
    obtain ⟨k, rfl, hk, hk6, I⟩ := hrel
    by_cases hlt : k < n ∧ k < 6
    · obtain ⟨hkn, hks⟩ := hlt
      obtain ⟨b, off, rfl, hbw, hcell⟩ : ∃ b off, A = some ⟨b, off, none⟩ ∧ b < w.heap.size ∧ ∀ i, i < n → ∀ j, j < 4 → w.cell? ⟨b, off + i * 4 + j, none⟩ = some (.int .i64 (y i j)) ∧ -9223372036854775808 ≤ y i j ∧ y i j ≤ 9223372036854775807 := by
        rcases HX.out with h | h
        · omega
        · exact h
      obtain ⟨p0, p1, p2⟩ := hcell k hkn 0 (by omega)
      obtain ⟨q0, q1, q2⟩ := hcell k hkn 1 (by omega)
      obtain ⟨r0, r1, r2⟩ := hcell k hkn 2 (by omega)
      obtain ⟨s0, s1, s2⟩ := hcell k hkn 3 (by omega)
      have e0 : wr.cell? ⟨b, off + k * 4, none⟩ = some (.int .i64 (y k 0)) := cell_below I.out.below p0
      have e1 : wr.cell? ⟨b, off + k * 4 + 1, none⟩ = some (.int .i64 (y k 1)) := cell_below I.out.below q0
      have e2 : wr.cell? ⟨b, off + k * 4 + 2, none⟩ = some (.int .i64 (y k 2)) := cell_below I.out.below r0
      have e3 : wr.cell? ⟨b, off + k * 4 + 3, none⟩ = some (.int .i64 (y k 3)) := cell_below I.out.below s0
      have HOK := Lib.hid (Tf.mkRate_ok (y k 0) (y k 1) (y k 2) (y k 3))
      clear p0 q0 r0 s0 hcell
      obtain ⟨i0, hi, hz0, hz1, hz2⟩ := info_parts Tryz.info68
      have hsz0 : w.heap.size + 2 ≤ wr.heap.size := by obtain ⟨v, l, h5, -⟩ := I.out.row; have := (Array.getElem?_eq_some_iff.1 h5).1; omega
      have HSZ := Lib.hid hsz0
      clear hsz0
      generalize y k 0 = a0 at *
      generalize y k 1 = a1 at *
      generalize y k 2 = a2 at *
      generalize y k 3 = a3 at *
      have hkz : (k : Int) < (n : Int) := by omega
      have hkz6 : (k : Int) < 6 := by omega
      have P0 := Lib.hid (fun W => pick_eq a0 127 p1 p2 (by decide) (by decide) W)
      have P1 := Lib.hid (fun W => pick_eq a1 24 q1 q2 (by decide) (by decide) W)
      have P3 := Lib.hid (fun W => pick_eq a3 1000 s1 s2 (by decide) (by decide) W)
      have g0 := Tf.pk_range a0 (n := 127) (by decide)
      have g1 := Tf.pk_range a1 (n := 24) (by decide)
      have g3 := Tf.pk_range a3 (n := 1000) (by decide)
      obtain ⟨u0, hu0⟩ : ∃ u, Tf.pk a0 127 = u := ⟨_, rfl⟩
      obtain ⟨u1, hu1⟩ : ∃ u, Tf.pk a1 24 = u := ⟨_, rfl⟩
      obtain ⟨u3, hu3⟩ : ∃ u, Tf.pk a3 1000 = u := ⟨_, rfl⟩
      rw [hu0] at P0 g0
      rw [hu1] at P1 g1
      rw [hu3] at P3 g3
      go_wp2
      obtain ⟨W5, hW5⟩ : ∃ W5, wr.alloc (.cells #[.int .i64 a0, .int .i64 a1, .int .i64 a2, .int .i64 a3] 78) = W5 := ⟨_, rfl⟩
      have v0 : W5.cell? ⟨wr.heap.size, 0, none⟩ = some (.int .i64 a0) := by rw [← hW5]; simp [go_sem]
      have v1 : W5.cell? ⟨wr.heap.size, 1, none⟩ = some (.int .i64 a1) := by rw [← hW5]; simp [go_sem]
      have v2 : W5.cell? ⟨wr.heap.size, 2, none⟩ = some (.int .i64 a2) := by rw [← hW5]; simp [go_sem]
      have v3 : W5.cell? ⟨wr.heap.size, 3, none⟩ = some (.int .i64 a3) := by rw [← hW5]; simp [go_sem]
      rw [hW5]
      have HK := Lib.hid (show ∀ W', Below W5.heap.size W5 W' → W'.cell? ⟨wr.heap.size, 0, none⟩ = some (.int .i64 a0) ∧ W'.cell? ⟨wr.heap.size, 1, none⟩ = some (.int .i64 a1) ∧ W'.cell? ⟨wr.heap.size, 2, none⟩ = some (.int .i64 a2) ∧ W'.cell? ⟨wr.heap.size, 3, none⟩ = some (.int .i64 a3) ∧ Below W5.heap.size W5 W' from fun W' h => ⟨cell_below h v0, cell_below h v1, cell_below h v2, cell_below h v3, h⟩)
      have HKD := Lib.hid (show ∀ W', Below W5.heap.size W5 W' → Below W5.heap.size W5 W'.drew from fun W' h => h.drew)
      have HKA := Lib.hid (show ∀ W' o, Below W5.heap.size W5 W' → Below W5.heap.size W5 (W'.alloc o) from fun W' o h => h.alloc h.size o)
      have HROW := Lib.hid (show ∀ W', Below W5.heap.size W5 W' → Below w.heap.size w W' ∧ W'.heap[w.heap.size]? = some (.cells #[.slice none 0 0, .int .i64 0] 26 (0, 0)) ∧ ∃ v l, W'.heap[w.heap.size + 1]? = some (.cells #[v, .int .i64 bv] 26 (0, 0)) ∧ l.length = k ∧ (∀ r ∈ l, okR r) ∧ W'.ownsRow (w.heap.size + 2) 68 4 v k (flatR l) from fun W' h => by
        obtain ⟨v, l, h5, hl1, hl2, hown⟩ := I.out.row
        have h5s := (Array.getElem?_eq_some_iff.1 h5).1
        have hwr : Below wr.heap.size wr W' := by
          have h' := h
          rw [← hW5] at h'
          exact (below_al1 wr _).trans (h'.mono (below_al1 wr _).size)
        exact ⟨I.out.below.trans (hwr.mono I.out.below.size), (hwr.block _ (by omega)).trans I.out.c4, v, l, (hwr.block _ h5s).trans h5, hl1, hl2, hown.kept (row := none) ⟨hwr.os, hwr.tape, hwr.output, hwr.size, fun k hk _ => hwr.block k hk⟩ (by cases v.ownBlock <;> simp)⟩)
      have HS5 := Lib.hid (show w.heap.size + 2 ≤ W5.heap.size by have := HSZ.out; rw [← hW5]; simp; omega)
      have HW5 := Lib.hid hW5
      clear hW5
      have z1 : IntKind.i64.wrap (1 + u0) = 1 + u0 := IntWalk.i64_in _ (by omega)
      have z2 : IntKind.i64.wrap (3600 * u1) = 3600 * u1 := IntWalk.i64_in _ (by omega)
      go_cut [8] from 12 to 73 (fun v8 wx => v8 = .pointer (some ⟨W5.heap.size, 0, none⟩) ∧ wx.heap[W5.heap.size]? = some (.cells #[.int .i64 (1 + u0), .int .i64 (3600 * u1), .int .i64 0, .int .i64 u3] 68 (0, 0)) ∧ Below W5.heap.size W5 wx)
      case first =>
       go_region_held3 (fun W' => W'.cell? ⟨wr.heap.size, 0, none⟩ = some (.int .i64 a0) ∧ W'.cell? ⟨wr.heap.size, 1, none⟩ = some (.int .i64 a1) ∧ W'.cell? ⟨wr.heap.size, 2, none⟩ = some (.int .i64 a2) ∧ W'.cell? ⟨wr.heap.size, 3, none⟩ = some (.int .i64 a3) ∧ Below W5.heap.size W5 W')
         (with_reducible refine HK.out _ ?_; repeat (first | with_reducible exact Below.refl _ W5 | (with_reducible refine HKD.out _ ?_) | (with_reducible refine HKA.out _ _ ?_)))
         (first | (go_at_call 46; (with_reducible refine (P0.out _).mono ?_); rintro e w1 ⟨rfl, rfl⟩) | (go_at_call 46; (with_reducible refine (P1.out _).mono ?_); rintro e w1 ⟨rfl, rfl⟩) | (go_at_call 46; (with_reducible refine (P3.out _).mono ?_); rintro e w1 ⟨rfl, rfl⟩))
       all_goals (go_wp2_with fail; go_meet)
       all_goals exact ⟨rfl, heap_at' _ _ rfl, (below_al1 W5 _).drew⟩
      case rest =>
       obtain ⟨rfl, hbr, hbw7⟩ := hcut
       obtain ⟨x0, x1, x2, x3, -⟩ := HK.out wc hbw7
       have P2 := Lib.hid (fun W => pick_eq a2 24 r1 r2 (by decide) (by decide) W)
       have g2 := Tf.pk_range a2 (n := 24) (by decide)
       obtain ⟨u2, hu2⟩ : ∃ u, Tf.pk a2 24 = u := ⟨_, rfl⟩
       rw [hu2] at P2 g2
       obtain ⟨f, hf⟩ : ∃ f, 3600 * u1 = f := ⟨_, rfl⟩
       rw [hf] at hbr
       have z3 : IntKind.i64.wrap (1 + u2) = 1 + u2 := IntWalk.i64_in _ (by omega)
       have z4 : IntKind.i64.wrap (3600 * (1 + u2)) = 3600 * (1 + u2) := IntWalk.i64_in _ (by omega)
       have z5 : IntKind.i64.wrap (f + 3600 * (1 + u2)) = f + 3600 * (1 + u2) := IntWalk.i64_in _ (by omega)
       have b1 : wc.cell? ⟨W5.heap.size, 1, none⟩ = some (.int .i64 f) := by simp [World.cell?, hbr]
       have b2 : wc.cell? ⟨W5.heap.size, 2, none⟩ = some (.int .i64 0) := by simp [World.cell?, hbr]
       have fz : wc.frozen? ⟨W5.heap.size, 2, none⟩ = false := by simp [World.frozen?, hbr]
       go_upto_region 7 with (fail)
       go_cut [] from 12 to 73 (fun wx => wx.heap[W5.heap.size]? = some (.cells #[.int .i64 (1 + u0), .int .i64 f, .int .i64 (min (f + 3600 * (1 + u2)) 86400), .int .i64 u3] 68 (0, 0)) ∧ Below W5.heap.size W5 wx)
       case first =>
         refine wp_region_still_tail 10 (by kernel_rfl) (by kernel_rfl) ?_
         simp only [List.take_succ_cons, List.take_zero, List.drop_succ_cons, List.drop_zero]
         change wpStill _ _ wc.drew (fun a' => wpList _ _ _ _ a' wc.drew) _ _
         obtain ⟨W6, hW6⟩ : ∃ W6, wc.drew = W6 := ⟨_, rfl⟩
         replace x2 : wc.drew.cell? _ = _ := x2
         replace b1 : wc.drew.cell? _ = _ := b1
         replace b2 : wc.drew.cell? _ = _ := b2
         replace fz : wc.drew.frozen? _ = _ := fz
         replace hbr : wc.drew.heap[_]? = _ := hbr
         have hbw8 := hbw7.drew
         rw [hW6] at x2 b1 b2 fz hbr hbw8 ⊢
         repeat (first | still_step | (refine wpStill_step (fun K hK => ?_); go_simp; (with_reducible refine ⟨_, P2.out _, hK _ ?_⟩); clear hK K))
         refine wpStill_nil ?_
         go_wp2_with fail
         go_meet
         exact ⟨sc_row _ _ _ _ hbr, hbw8.setCell (Nat.le_refl _) _⟩
       case rest =>
         obtain ⟨hbr2, hbw9⟩ := hcut
         clear x0 x1 x2 x3 b1 b2 fz hbr hbw7
         obtain ⟨x0, x1, x2, x3, -⟩ := HK.out wc hbw9
         obtain ⟨tl, htl⟩ : ∃ t, min (f + 3600 * (1 + u2)) 86400 = t := ⟨_, rfl⟩
         rw [htl] at hbr2
         obtain ⟨t1, t2⟩ : -9223372036854775808 ≤ Int.tdiv a1 24 ∧ Int.tdiv a1 24 ≤ 9223372036854775807 := tdiv_range 24 q1 q2 (by omega)
         obtain ⟨q, hq⟩ : ∃ q, Int.tdiv a1 24 = q := ⟨_, rfl⟩
         rw [hq] at t1 t2
         have P4 := Lib.hid (fun W => pick_eq q 4 t1 t2 (by decide) (by decide) W)
         obtain ⟨u4, hu4⟩ : ∃ u, Tf.pk q 4 = u := ⟨_, rfl⟩
         rw [hu4] at P4
         obtain ⟨b0, b1, b2, b3, fz⟩ := row_cells hbr2
         have fz1 := fz 1
         have fz2 := fz 2
         clear fz
         have HQS := Lib.hid (And.intro hq (And.intro hu4 (And.intro hu0 (And.intro hu1 (And.intro hu2 (And.intro hu3 (And.intro hf htl)))))))
         clear hu4 hu0 hu1 hu2 hu3 hf htl
         go_upto_if 52 with (first | (go_at_call 46; (with_reducible refine (P4.out _).mono ?_); rintro e w1 ⟨rfl, hww⟩; obtain rfl := hww.symm))
         clear hq
         go_cut [] from 12 to 73 (fun wx => RateIn W5 wx)
         case first =>
          by_cases h3 : u4 = 3
          · have hb3 : (u4 == 3) = true := by simp [h3]
            have P5 := Lib.hid (fun W => pick_eq a1 86400 q1 q2 (by decide) (by decide) W)
            have g5 := Tf.pk_range a1 (n := 86400) (by decide)
            obtain ⟨u5, hu5⟩ : ∃ u, Tf.pk a1 86400 = u := ⟨_, rfl⟩
            rw [hu5] at P5 g5
            have P6 := Lib.hid (fun W => pick_eq a2 (86400 - u5) r1 r2 (by omega) (by omega) W)
            have g6 := Tf.pk_range a2 (n := 86400 - u5) (by omega)
            obtain ⟨u6', hu6⟩ : ∃ u, Tf.pk a2 (86400 - u5) = u := ⟨_, rfl⟩
            rw [hu6] at P6 g6
            have HU := Lib.hid (And.intro hu5 hu6)
            have HT := Lib.hid h3
            clear hu5 hu6 h3
            go_wp2_with (first | (go_at_call 46; (with_reducible refine (P5.out _).mono ?_); rintro e w1 ⟨rfl, hww⟩; obtain rfl := hww.symm))
            have y1 : IntKind.i64.wrap (86400 - u5) = 86400 - u5 := IntWalk.i64_in _ (by omega)
            have y2 : IntKind.i64.wrap (u5 + 1) = u5 + 1 := IntWalk.i64_in _ (by omega)
            have y3 : IntKind.i64.wrap (u5 + 1 + u6') = u5 + 1 + u6' := IntWalk.i64_in _ (by omega)
            obtain ⟨W8, hW8⟩ : ∃ W8, wc.setCell ⟨W5.heap.size, 1, none⟩ (.int .i64 u5) = W8 := ⟨_, rfl⟩
            have hbr3 : W8.heap[W5.heap.size]? = some (.cells #[.int .i64 (1 + u0), .int .i64 u5, .int .i64 tl, .int .i64 u3] 68 (0, 0)) := by rw [← hW8]; exact sc_row _ _ _ _ hbr2
            have hbw10 : Below W5.heap.size W5 W8 := by rw [← hW8]; exact hbw9.setCell (Nat.le_refl _) _
            rw [hW8]
            clear x0 x1 x2 x3 b0 b1 b2 b3 fz1 fz2 hbr2 hbw9 hW8
            refine wp_region_still_tail 11 (by kernel_rfl) (by kernel_rfl) ?_
            simp only [List.take_succ_cons, List.take_zero, List.drop_succ_cons, List.drop_zero]
            change wpStill _ _ W8.drew (fun a' => wpList _ _ _ _ a' W8.drew) _ _
            obtain ⟨W6, hW6⟩ : ∃ W6, W8.drew = W6 := ⟨_, rfl⟩
            replace hbr3 : W8.drew.heap[_]? = _ := hbr3
            have hbw8 := hbw10.drew
            rw [hW6] at hbr3 hbw8 ⊢
            obtain ⟨x0, x1, x2, x3, -⟩ := HK.out W6 hbw8
            obtain ⟨b0, b1, b2, b3, fz⟩ := row_cells hbr3
            have fz2 := fz 2
            clear fz
            repeat (first | still_step | (refine wpStill_step (fun K hK => ?_); go_simp; (with_reducible refine ⟨_, P6.out _, hK _ ?_⟩); clear hK K))
            refine wpStill_nil ?_
            go_wp2_with fail
            go_meet
            refine ⟨hbw8.setCell (Nat.le_refl _) _, 1 + u0, u5, u5 + 1 + u6', u3, ?_, sc_row _ _ _ _ hbr3⟩
            have h := HOK.out
            unfold Tf.mkRate at h
            obtain ⟨hq, hu4, hu0, hu1, hu2, hu3, hf, htl⟩ := HQS.out
            rw [hq, hu4, HT.out, if_pos rfl, hu0, hu3, HU.out.1, HU.out.2] at h
            exact ⟨h, by show u3 < 1000; omega⟩
          · have hb3 : (u4 == 3) = false := by simp [h3]
            have HT := Lib.hid h3
            clear h3
            go_wp2_with fail
            go_meet
            refine ⟨hbw9, 1 + u0, f, tl, u3, ?_, hbr2⟩
            have h := HOK.out
            unfold Tf.mkRate at h
            obtain ⟨hq, hu4, hu0, hu1, hu2, hu3, hf, htl⟩ := HQS.out
            rw [hq, hu4, if_neg HT.out, hu0, hu1, hu2, hu3, hf, htl] at h
            exact ⟨h, by show u3 < 1000; omega⟩
         case rest =>
          clear x0 x1 x2 x3 b0 b1 b2 b3 fz1 fz2 hbr2 hbw9 P0 P1 P2 P3 P4 e0 e1 e2 e3 v0 v1 v2 v3 z1 z2 z3 z4 z5 HQS HOK HKA HKD
          obtain ⟨hbF, rd, rf, rt, rp, hok, hbrF⟩ := hcut
          obtain ⟨b0, b1, b2, b3, -⟩ := row_cells hbrF
          obtain ⟨hbw, hc4, v, l, h5, hl1, hl2, hown⟩ := HROW.out _ hbF
          have hsw := HS5.out
          have hwc := hbF.size
          have c50 : wc.cell? ⟨w.heap.size + 1, 0, none⟩ = some v := by simp [World.cell?, h5]
          have H5 := Lib.hid (And.intro h5 (And.intro hc4 (And.intro hbw (And.intro hl1 (And.intro hl2 hok)))))
          clear h5 hbrF hbF hbw hc4 hl1 hl2 hok
          have HAP := Lib.hid (fun (v' : Value) (w1 : World) (n' : Nat) (xs' : List Value) (tmp : Obj) (hown' : w1.ownsRow (w.heap.size + 2) 68 4 v' n' xs') (hgrow : (wc.alloc tmp).grownBy w1 v.ownBlock) => appF (H := w.heap.size) H5.out.1 hown (by omega) (by omega) hown' hgrow (by omega))
          go_wp2_with (at_builtin; (refine wpList_append_own _ rfl _ _ 24 rfl (w.heap.size + 2) 68 i0 (.agg #[.int .i64 0, .int .i64 0, .int .i64 0, .int .i64 0]) 4 32 Tryz.underlying24 hi hz0 hz1 hz2 rfl (by decide) _ _ _ rfl (hown.alloc _) ⟨wc.heap.size, 0, none⟩ 1 1 [.int .i64 rd, .int .i64 rf, .int .i64 rt, .int .i64 rp] rfl rfl ?c1 ?c2 ?c3 ?c4 ?c5 ?_); rotate_left 5; intro v' w1 hown' hgrow _; obtain ⟨g', cap', rfl⟩ := ownsRow_succ hown'; go_loud (have K1 := HAP.out _ w1 _ _ _ hown' hgrow; have c51 : w1.cell? ⟨w.heap.size + 1, 0, none⟩ = some v := (by simp [World.cell?, K1.1]); have f51 : w1.frozen? ⟨w.heap.size + 1, 0, none⟩ = false := (by simp [World.frozen?, K1.1]); have HN := Lib.hid K1.2; clear K1))
          case c1 => exact cell_four_new wc _ _ _ _ _
          case c2 => intro u hu; simp at hu; rcases hu with rfl | rfl | rfl | rfl <;> rfl
          case c3 => unfold maxLen; omega
          case c4 => omega
          case c5 => simp; omega
          obtain ⟨h5', hc4, hbw, hl1, hl2, hok⟩ := H5.out
          obtain ⟨k2, k3, k4, k5⟩ := HN.out
          go_roundw
          case rel =>
            refine ⟨k + 1, by go_num, by omega, by omega, ?_⟩
            exact ⟨hbw.trans k4, (k5 _ (by omega) (by omega)).trans hc4, _, l ++ [⟨rd, rf, rt, rp⟩], k2, by simp [hl1], okR_snoc hl2 hok, by rw [flatR_append]; exact k3⟩
          case measure => simp [intOf] <;> omega
    · obtain ⟨v, l, h5, hl1, hl2, hown⟩ := I.out.row
      have hc4 := I.out.c4
      have hbw := I.out.below
      have hk' : k ≤ 6 := hk6
      have hsz := (Array.getElem?_eq_some_iff.1 h5).1
      have H5 := Lib.hid (And.intro h5 (And.intro hc4 (And.intro hbw (And.intro hl1 hl2))))
      have e0 : wr.cell? ⟨w.heap.size + 1, 0, none⟩ = some v := by simp [World.cell?, h5]
      have e1 : wr.cell? ⟨w.heap.size + 1, 1, none⟩ = some (.int .i64 bv) := by simp [World.cell?, h5]
      have e2 : wr.cell? ⟨w.heap.size, 0, none⟩ = some (.slice none 0 0) := by simp [World.cell?, hc4]
      have e3 : wr.cell? ⟨w.heap.size, 1, none⟩ = some (.int .i64 0) := by simp [World.cell?, hc4]
      have f2 : wr.frozen? ⟨w.heap.size, 0, none⟩ = false := by simp [World.frozen?, hc4]
      have f3 : wr.frozen? ⟨w.heap.size, 1, none⟩ = false := by simp [World.frozen?, hc4]
      obtain ⟨A', c', hv, hR⟩ := ratesAt_own (l := l) (by rw [hl1]; exact hown)
      subst hv
      have HO := Lib.hid hown
      clear h5 hc4 hbw hl1 hl2 hown hR
      rcases (show ¬ k < n ∨ (k < n ∧ k = 6) from by omega) with hkn | ⟨hkn, rfl⟩
      · have hkz : ¬ (k : Int) < (n : Int) := by omega
        go_wp2
        exact bodyPost_ret (results_cell_row rfl _ _ _ _ _ _ _ rfl (sc_row _ _ 1 _ (sc_row _ _ 0 _ H5.out.2.1)) Tryz.underlying26 rfl (by kernel_rfl)) rfl (madeR_of HBR.out (by omega) H5.out.2.2.2.1 H5.out.2.2.2.2 rfl HO.out H5.out.2.2.1 _ _)
      · have hkz : (6 : Int) < (n : Int) := by omega
        go_wp2
        exact bodyPost_ret (results_cell_row rfl _ _ _ _ _ _ _ rfl (sc_row _ _ 1 _ (sc_row _ _ 0 _ H5.out.2.1)) Tryz.underlying26 rfl (by kernel_rfl)) rfl (madeR_of HBR.out (by omega) H5.out.2.2.2.1 H5.out.2.2.2.2 rfl HO.out H5.out.2.2.1 _ _)
end Go.Proofs.YtbenflnpnohcjaaGreatDoor

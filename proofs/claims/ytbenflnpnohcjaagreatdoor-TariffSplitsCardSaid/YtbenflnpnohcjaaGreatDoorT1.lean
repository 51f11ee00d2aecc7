/- Contracts of the small functions of package tariff: bounds, zones, spells, rates and their prices. -/
import Derived.Test.YtbenflnpnohcjaaGreatDoorProg
import Derived.Test.YtbenflnpnohcjaaGreatDoorTfPlain
import Derived.WalkKit
import Derived.Deep.QuietTactic
import Derived.BigQuiet
import Derived.KernelRfl
import Derived.Lib.Hide
import Derived.LoopN
import Derived.Shelf.Abstract
import Derived.Deep.LoopGhost
namespace Go.Proofs.YtbenflnpnohcjaaGreatDoor
open Go.RowKit

def inB (n a b : Int) : Bool := decide (a ≤ n) && decide (n ≤ b)
theorem inB_iff {n a b : Int} : inB n a b = true ↔ a ≤ n ∧ n ≤ b := by simp [inB]
theorem inB_not {n a b : Int} : inB n a b = false ↔ n < a ∨ b < n := by
  have h := inB_iff (n := n) (a := a) (b := b)
  cases hb : inB n a b
  · rw [hb] at h
    by_cases c : a ≤ n
    · by_cases d : n ≤ b
      · exact absurd (h.2 ⟨c, d⟩) (by simp)
      · simp; omega
    · simp; omega
  · have := inB_iff.1 hb; simp; omega

theorem isIn_any (n a b : Int) (w : World) : Calls Tryz.prog 48 #[.int .i64 n, .int .i64 a, .int .i64 b] w fun e w' => e = .returned (.bool (inB n a b)) ∧ w = w' := by
  by_cases h : a ≤ n
  · go_enter Tryz.func48, Tryz.ntmps48
    go_wp2
    all_goals (go_ret; exact ⟨by simp [inB, h], rfl⟩)
  · have h' : decide (a ≤ n) = false := by simpa using h
    have hr : inB n a b = false := by simp [inB, h']
    rw [hr]
    go_enter Tryz.func48, Tryz.ntmps48
    go_wp2
    all_goals (go_ret; exact ⟨rfl, rfl⟩)

theorem local_any (z t : Int) (w : World) (h1 : 0 ≤ t) (h2 : t ≤ 20000000) (h3 : -60000 ≤ z) (h4 : z ≤ 60000) : Calls Tryz.prog 53 #[.int .i64 z, .int .i64 t] w fun e w' => e = .returned (.int .i64 (Tf.loc z t)) ∧ w = w' := by
  go_enter Tryz.func53, Tryz.ntmps53
  go_wp2
  all_goals (go_ret; exact ⟨by simp [Tf.loc], rfl⟩)

def zoneB (z : Int) : Bool := inB z (-50400) 50400
theorem isZone_any (z : Int) (w : World) : Calls Tryz.prog 51 #[.int .i64 z] w fun e w' => e = .returned (.bool (zoneB z)) ∧ w = w' := by
  go_enter Tryz.func51, Tryz.ntmps51
  go_wp2_with (go_at_call 48; refine (isIn_any _ _ _ _).mono ?_; rintro e w' ⟨rfl, rfl⟩)
  all_goals (go_ret; exact ⟨rfl, rfl⟩)

def spellB (a b : Int) : Bool := decide (0 ≤ a) && inB b a 10000000
theorem isSpell_any (a b : Int) (w : World) : Calls Tryz.prog 63 #[.agg #[.int .i64 a, .int .i64 b]] w fun e w' => e = .returned (.bool (spellB a b)) ∧ Below w.heap.size w w' := by
  by_cases h : 0 ≤ a
  · go_enter Tryz.func63, Tryz.ntmps63
    go_wp2_with (go_at_call 48; refine (isIn_any _ _ _ _).mono ?_; rintro e w' ⟨rfl, rfl⟩)
    all_goals (go_ret; exact ⟨by simp [spellB, h], (Below.refl _ _).alloc (Nat.le_refl _) _⟩)
  · go_enter Tryz.func63, Tryz.ntmps63
    go_wp2_with (go_at_call 48; refine (isIn_any _ _ _ _).mono ?_; rintro e w' ⟨rfl, rfl⟩)
    all_goals (go_ret; exact ⟨by simp [spellB]; omega, (Below.refl _ _).alloc (Nat.le_refl _) _⟩)

/-! ### Rates in memory -/
def encR (r : Tf.Rate) : List Value := [.int .i64 r.days, .int .i64 r.frm, .int .i64 r.til, .int .i64 r.price]
def RatesAt (w : World) (A : Option Addr) (l : List Tf.Rate) : Prop :=
  l = [] ∨ ∃ b off, A = some ⟨b, off, none⟩ ∧ b < w.heap.size ∧ ∀ j, j < l.length → ∀ i v, (encR l[j]!)[i]? = some v → w.cell? ⟨b, off + j * 4 + i, none⟩ = some v
theorem RatesAt.below {w w' : World} {A : Option Addr} {l : List Tf.Rate} (h : RatesAt w A l) (hb : Below w.heap.size w w') : RatesAt w' A l := by
  rcases h with h | ⟨b, off, h1, h2, h3⟩
  · exact .inl h
  · exact .inr ⟨b, off, h1, Nat.lt_of_lt_of_le h2 hb.size, fun j hj i v hi => (hb.cell (p := ⟨b, off + j * 4 + i, none⟩) h2).trans (h3 j hj i v hi)⟩

/-- The closure of Valid: a rate that is not valid. -/
theorem bad_any (r : Tf.Rate) (w : World) : Calls Tryz.prog 47 #[.agg (encR r).toArray] w fun e w' => e = .returned (.bool (!Tf.okRate r)) ∧ Below w.heap.size w w' := by
  obtain ⟨d, f, t, p⟩ := r
  have key : ∀ b : Bool, (b = true ↔ 1 ≤ d ∧ d ≤ 127 ∧ 0 ≤ f ∧ f < t ∧ t ≤ 86400 ∧ 0 ≤ p ∧ p ≤ 1000000) → (Tf.okRate ⟨d, f, t, p⟩) = b := by
    intro b hb
    rw [Bool.eq_iff_iff, Tf.okRate_iff, hb]
  show Calls Tryz.prog 47 #[.agg #[.int .i64 d, .int .i64 f, .int .i64 t, .int .i64 p]] w _
  by_cases h1 : inB d 1 127 = true
  · have i1 := inB_iff.1 h1
    by_cases h2 : f < 0
    · rw [key false (by simp; omega)]
      go_enter Tryz.func47, Tryz.ntmps47
      go_wp2_with (go_at_call 48; refine (isIn_any _ _ _ _).mono ?_; rintro e w' ⟨rfl, rfl⟩)
      all_goals (go_ret; exact ⟨by simp, (Below.refl _ _).alloc (Nat.le_refl _) _⟩)
    · by_cases h4 : 86400 ≤ f
      · rw [key false (by simp; omega)]
        by_cases h3 : inB t (wrap64 (f + 1)) 86400 = true
        all_goals
          go_enter Tryz.func47, Tryz.ntmps47
          go_wp2_with (go_at_call 48; refine (isIn_any _ _ _ _).mono ?_; rintro e w' ⟨rfl, rfl⟩)
          all_goals (go_ret; exact ⟨by simp, (Below.refl _ _).alloc (Nat.le_refl _) _⟩)
      · by_cases h3 : inB t (f + 1) 86400 = true
        · have i3 := inB_iff.1 h3
          by_cases h5 : inB p 0 1000000 = true
          · have i5 := inB_iff.1 h5
            rw [key true (by simp; omega)]
            go_enter Tryz.func47, Tryz.ntmps47
            go_wp2_with (go_at_call 48; refine (isIn_any _ _ _ _).mono ?_; rintro e w' ⟨rfl, rfl⟩)
            all_goals (go_ret; exact ⟨by simp; omega, (Below.refl _ _).alloc (Nat.le_refl _) _⟩)
          · have h5' : inB p 0 1000000 = false := by simpa using h5
            have i5 := inB_not.1 h5'
            rw [key false (by simp; omega)]
            go_enter Tryz.func47, Tryz.ntmps47
            go_wp2_with (go_at_call 48; refine (isIn_any _ _ _ _).mono ?_; rintro e w' ⟨rfl, rfl⟩)
            all_goals (go_ret; exact ⟨by simp, (Below.refl _ _).alloc (Nat.le_refl _) _⟩)
        · have h3' : inB t (f + 1) 86400 = false := by simpa using h3
          have i3 := inB_not.1 h3'
          rw [key false (by simp; omega)]
          go_enter Tryz.func47, Tryz.ntmps47
          go_wp2_with (go_at_call 48; refine (isIn_any _ _ _ _).mono ?_; rintro e w' ⟨rfl, rfl⟩)
          all_goals (go_ret; exact ⟨by simp, (Below.refl _ _).alloc (Nat.le_refl _) _⟩)
  · have h1' : inB d 1 127 = false := by simpa using h1
    have i1 := inB_not.1 h1'
    rw [key false (by simp; omega)]
    go_enter Tryz.func47, Tryz.ntmps47
    go_wp2_with (go_at_call 48; refine (isIn_any _ _ _ _).mono ?_; rintro e w' ⟨rfl, rfl⟩)
    all_goals (go_ret; exact ⟨by simp, (Below.refl _ _).alloc (Nat.le_refl _) _⟩)

/-! ### slices.IndexFunc and ContainsFunc over rates -/
/-- A predicate on rates that a closure computes, in each later world. -/
def RatePred (g : Nat) (lb : Array Value) (p : Tf.Rate → Bool) (l : List Tf.Rate) (w : World) : Prop :=
  ∀ (W : World) (r : Tf.Rate), r ∈ l → Below w.heap.size w W → Calls Tryz.prog g (#[.agg (encR r).toArray] ++ lb) W fun e w' => e = .returned (.bool (p r)) ∧ Below w.heap.size w w'

def idxI (p : Tf.Rate → Bool) (l : List Tf.Rate) : Int := match l.findIdx? p with
  | some i => i
  | none => -1
theorem idxI_hit {p : Tf.Rate → Bool} {l : List Tf.Rate} {k : Nat} (hk : k < l.length) (h : p l[k]! = true) (ha : ∀ j, j < k → p l[j]! = false) : idxI p l = k := by
  unfold idxI
  have : l.findIdx? p = some k := by
    rw [List.findIdx?_eq_some_iff_getElem]
    refine ⟨hk, by simpa [getElem!_pos l k hk] using h, fun j hj => ?_⟩
    have := ha j hj
    rw [getElem!_pos l j (by omega)] at this
    simp [this]
  rw [this]
theorem idxI_miss {p : Tf.Rate → Bool} {l : List Tf.Rate} (ha : ∀ j, j < l.length → p l[j]! = false) : idxI p l = -1 := by
  unfold idxI
  have : l.findIdx? p = none := by
    rw [List.findIdx?_eq_none_iff]
    intro x hx
    obtain ⟨j, hj, rfl⟩ := List.mem_iff_getElem.1 hx
    have := ha j hj
    rw [getElem!_pos l j hj] at this
    exact this
  rw [this]

set_option maxHeartbeats 1000000 in
theorem indexFunc_any (A : Option Addr) (c : Nat) (l : List Tf.Rate) (w : World) (g : Nat) (lb : Array Value) (p : Tf.Rate → Bool) (eg : ∀ args w, (callFunc g args).run Tryz.prog w = .ok (.enter g args) w)
    (hp : RatePred g lb p l w) (hR : RatesAt w A l) (hl : l.length ≤ 9223372036854775807) :
    Calls Tryz.prog 75 #[.slice A l.length c, .func (.func g) #[] lb] w fun e w' => e = .returned (.int .i64 (idxI p l)) ∧ Below w.heap.size w w' := by
  go_enter Tryz.func75, Tryz.ntmps75
  go_wp2
  go_loopg [5, 8] l.length (fun gg _ s8 wr => ∃ kk : Nat, kk ≤ l.length ∧ l.length - kk ≤ gg ∧ s8 = .int .i64 kk ∧ Aside (Below w.heap.size w wr) ∧ Aside (∀ j, j < kk → p l[j]! = false))
  case atStart => exact ⟨0, Nat.zero_le _, by omega, rfl, Below.refl _ w, fun j hj => absurd hj (Nat.not_lt_zero _)⟩
  case round =>
    obtain ⟨kk, hkk, hg, rfl, BW, H⟩ := hrel
    by_cases hlt : kk < l.length
    · have hltz : (kk : Int) < (l.length : Int) := by omega
      obtain ⟨b, off, rfl, hb, hcells⟩ : ∃ b off, A = some ⟨b, off, none⟩ ∧ b < w.heap.size ∧ ∀ j, j < l.length → ∀ i v, (encR l[j]!)[i]? = some v → w.cell? ⟨b, off + j * 4 + i, none⟩ = some v := by
        rcases hR with h | h
        · subst h; simp at hlt
        · exact h
      have hc : ∀ i v, (encR l[kk]!)[i]? = some v → wr.cell? ⟨b, off + kk * 4 + i, none⟩ = some v := fun i v hi => (BW.out.cell (p := ⟨b, off + kk * 4 + i, none⟩) hb).trans (hcells kk hlt i v hi)
      have hmem : l[kk]! ∈ l := by rw [getElem!_pos l kk hlt]; exact List.getElem_mem hlt
      have hcall := hp wr l[kk]! hmem BW.out
      clear hcells hp hR
      generalize hy : l[kk]! = y at hc hcall
      have c0 : wr.cell? ⟨b, off + kk * 4, none⟩ = some (.int .i64 y.days) := hc 0 _ rfl
      have c1 : wr.cell? ⟨b, off + kk * 4 + 1, none⟩ = some (.int .i64 y.frm) := hc 1 _ rfl
      have c2 : wr.cell? ⟨b, off + kk * 4 + 2, none⟩ = some (.int .i64 y.til) := hc 2 _ rfl
      have c3 : wr.cell? ⟨b, off + kk * 4 + 3, none⟩ = some (.int .i64 y.price) := hc 3 _ rfl
      clear hc
      have B : Aside (l[kk]! = y) := hy
      clear hy hmem
      have hcall' : Calls Tryz.prog g (#[.agg #[.int .i64 y.days, .int .i64 y.frm, .int .i64 y.til, .int .i64 y.price]] ++ lb) wr fun e w' => e = .returned (.bool (p y)) ∧ Below w.heap.size w w' := hcall
      clear hcall
      cases hq : p y with
      | true =>
        rw [hq] at hcall'
        go_wp2_with (go_at_fn g; refine hcall'.mono ?_; rintro e w' ⟨rfl, hb'⟩)
        go_ret
        refine ⟨?_, hb'⟩
        rw [idxI_hit hlt (by rw [B.out]; exact hq) H.out]; rfl
      | false =>
        rw [hq] at hcall'
        go_wp2_with (go_at_fn g; refine hcall'.mono ?_; rintro e w' ⟨rfl, hb'⟩)
        go_roundg (l.length - (kk + 1))
        case measure => omega
        case rel =>
          refine ⟨kk + 1, by omega, by omega, by go_num, hb', fun j hj => ?_⟩
          by_cases hjk : j < kk
          · exact H.out j hjk
          · have : j = kk := by omega
            subst this; rw [B.out]; exact hq
    · obtain rfl : kk = l.length := by omega
      clear hp hR
      go_wp2
      go_ret
      refine ⟨?_, BW.out⟩
      rw [idxI_miss H.out]; rfl
end Go.Proofs.YtbenflnpnohcjaaGreatDoor

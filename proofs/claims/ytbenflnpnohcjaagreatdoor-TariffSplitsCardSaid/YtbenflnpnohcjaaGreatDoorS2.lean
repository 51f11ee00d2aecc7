/- tariff.Exact. The reference's Ints and Same: whether two lists are equal. -/
import Derived.Test.YtbenflnpnohcjaaGreatDoorR6
import Derived.Test.YtbenflnpnohcjaaGreatDoorT10
import Derived.BigQuiet
namespace Go.Proofs.YtbenflnpnohcjaaGreatDoor
open Go.RowKit Go.Shelf

/-- A sum divided by 60, in lowest terms. -/
def ratV (n : Int) : Value := .agg #[.string (Nm.Tx (n / Int.gcd n 60)), .string (Nm.Tx (60 / Int.gcd n 60))]

set_option maxRecDepth 100000 in
set_option maxHeartbeats 1000000 in
theorem exact_any (A : Option Addr) (c : Nat) (x : Tf.Tariff) (hl : x.rates.length ≤ 9223372036854775807) (z a b : Int) (w : World) (hR : RatesAt w A x.rates) (ht : Tab w) :
    Calls Tryz.prog 28 #[.agg #[.slice A x.rates.length c, .int .i64 x.base], .int .i64 z, .agg #[.int .i64 a, .int .i64 b]] w fun e w' =>
      e = .returned (if goodB x z a b = true then .tuple #[ratV (Tf.S (Tf.price x z) a b), .int .i64 0] else .tuple #[.agg #[.string ⟨#[]⟩, .string ⟨#[]⟩], .int .i64 370]) ∧ Below w.heap.size w w' := by
  obtain ⟨W0, hW0⟩ : ∃ W0, (((w.alloc (.cells #[.slice A x.rates.length c, .int .i64 x.base] 26)).alloc (.cells #[.int .i64 a, .int .i64 b] 28)).alloc (.cells #[.string ⟨#[]⟩, .string ⟨#[]⟩] 44)) = W0 := ⟨_, rfl⟩
  have hs0 : W0.heap.size = w.heap.size + 3 := by rw [← hW0]; simp
  have hb1 : Below w.heap.size w W0 := by rw [← hW0]; exact (((Below.refl _ w).alloc (Nat.le_refl _) _).alloc (by simp) _).alloc (by simp; omega) _
  have p0 : W0.heap[w.heap.size]? = some (.cells #[.slice A x.rates.length c, .int .i64 x.base] 26 (0, 0)) := by
    rw [← hW0, heap_past' _ _ (by simp; omega), heap_past' _ _ (by simp), heap_at' _ _ rfl]
  have p1 : W0.heap[w.heap.size + 1]? = some (.cells #[.int .i64 a, .int .i64 b] 28 (0, 0)) := by
    rw [← hW0, heap_past' _ _ (by simp), heap_at' _ _ (by simp)]
  have p2 : W0.heap[w.heap.size + 1 + 1]? = some (.cells #[.string ⟨#[]⟩, .string ⟨#[]⟩] 44 (0, 0)) := by
    rw [← hW0, heap_at' _ _ (by simp)]
  have HCC := Lib.hid (show ∀ W, Below W0.heap.size W0 W → W.cell? ⟨w.heap.size, 0, none⟩ = some (.slice A x.rates.length c) ∧ W.cell? ⟨w.heap.size, 1, none⟩ = some (.int .i64 x.base) ∧ W.cell? ⟨w.heap.size + 1, 0, none⟩ = some (.int .i64 a) ∧ W.cell? ⟨w.heap.size + 1, 1, none⟩ = some (.int .i64 b) ∧ W.cell? ⟨w.heap.size + 1 + 1, 0, none⟩ = some (.string ⟨#[]⟩) ∧ W.cell? ⟨w.heap.size + 1 + 1, 1, none⟩ = some (.string ⟨#[]⟩) ∧ W.frozen? ⟨w.heap.size + 1 + 1, 0, none⟩ = false ∧ W.frozen? ⟨w.heap.size + 1 + 1, 1, none⟩ = false ∧ W.heap[w.heap.size + 1 + 1]? = some (.cells #[.string ⟨#[]⟩, .string ⟨#[]⟩] 44 (0, 0)) ∧ w.heap.size + 1 + 1 < W.heap.size from fun W h => by
    have q0 := (h.block w.heap.size (by omega)).trans p0
    have q1 := (h.block (w.heap.size + 1) (by omega)).trans p1
    have q2 := (h.block (w.heap.size + 1 + 1) (by omega)).trans p2
    exact ⟨by simp [World.cell?, q0], by simp [World.cell?, q0], by simp [World.cell?, q1], by simp [World.cell?, q1], by simp [World.cell?, q2], by simp [World.cell?, q2], by simp [World.frozen?, q2], by simp [World.frozen?, q2], q2, by have := h.size; omega⟩)
  have hg := isGood_any A c x hl z a b W0 (hR.below hb1)
  have H1 := Lib.hid (And.intro hb1 (And.intro hs0 (Below.refl W0.heap.size W0)))
  have e0 := HCC.out W0 (Below.refl _ _)
  obtain ⟨c0, c1, c2, c3, c4, c5, c6, c7, _, _⟩ := e0
  cases h1 : goodB x z a b with
  | false =>
    rw [h1] at hg
    rw [if_neg (by simp)]
    have HG := Lib.hid hg
    clear hR hg h1 p0 p1 p2 hb1 hs0 ht
    go_enter Tryz.func28, Tryz.ntmps28
    go_wp2_with (go_at_call 56; refine HG.out.mono ?_; rintro e w1 ⟨rfl, hb⟩; have HB := Lib.hid hb; obtain ⟨d0, d1, d2, d3, d4, d5, d6, d7, _, d9⟩ := HCC.out _ hb)
    obtain ⟨_, _, _, _, _, _, _, _, q, _⟩ := HCC.out _ HB.out
    have t0 := sc_at w1 ⟨w.heap.size + 1 + 1, 0, none⟩ (.string ⟨#[]⟩) rfl q
    have t1 := sc_at _ ⟨w.heap.size + 1 + 1, 1, none⟩ (.string ⟨#[]⟩) rfl t0
    refine bodyPost_ret (results_ct rfl _ _ _ _ _ _ _ rfl t1 Tryz.underlying44 rfl (by kernel_rfl)) rfl ⟨rfl, ?_⟩
    exact ((H1.out.1.trans (HB.out.mono (by have := H1.out.2.1; omega))).setCell (p := ⟨w.heap.size + 1 + 1, 0, none⟩) (by simp only; omega) _).setCell (p := ⟨w.heap.size + 1 + 1, 1, none⟩) (by simp only; omega) _
  | true =>
    rw [h1] at hg
    rw [if_pos rfl]
    have h2 := h1
    simp only [goodB, spellB, zoneB, Bool.and_eq_true, decide_eq_true_eq, inB_iff] at h2
    obtain ⟨hx, ⟨hz1, hz2⟩, ha, hab, hb⟩ := h2
    have HG := Lib.hid hg
    have HS := Lib.hid (fun W (h : Below W0.heap.size W0 W) => sum_any x hx A c z a b (by omega) (by omega) ha (by omega) hab W ((hR.below hb1).below h))
    have hbd := Tf.sum_bounds hx z (a := a) (b := b) hab
    have HOF := Lib.hid (fun W (h : Below W0.heap.size W0 W) => of_any (Tf.S (Tf.price x z) a b) 60 (by omega) (by omega) (by omega) W ((ht.below hb1).below h))
    unfold ratV
    generalize Tf.S (Tf.price x z) a b = n at *
    obtain ⟨s1, hs1⟩ : ∃ s, Nm.Tx (n / Int.gcd n 60) = s := ⟨_, rfl⟩
    obtain ⟨s2, hs2⟩ : ∃ s, Nm.Tx (60 / Int.gcd n 60) = s := ⟨_, rfl⟩
    rw [hs1, hs2]
    rw [hs1, hs2] at HOF
    clear hR hg h1 p0 p1 p2 hb1 hs0 ht hbd ha hab hb hz1 hz2 hx hs1 hs2
    go_enter Tryz.func28, Tryz.ntmps28
    go_wp2_with (first | (go_at_call 56; refine HG.out.mono ?_; rintro e w1 ⟨rfl, hb⟩; have HB := Lib.hid hb; obtain ⟨d0, d1, d2, d3, d4, d5, d6, d7, _, d9⟩ := HCC.out _ hb) | (go_at_call 57; refine (HS.out _ HB.out).mono ?_; rintro e w2 ⟨rfl, hb2⟩; have HB2 := Lib.hid (HB.out.trans (hb2.mono HB.out.size))) | (go_at_call 60; refine (HOF.out _ HB2.out).mono ?_; rintro e w3 ⟨rfl, hb3⟩; have HB3 := Lib.hid (HB2.out.trans (hb3.mono HB2.out.size)); obtain ⟨j0, j1, j2, j3, j4, j5, j6, j7, _, j9⟩ := HCC.out _ HB3.out))
    obtain ⟨_, _, _, _, _, _, _, _, q, _⟩ := HCC.out _ HB3.out
    have t0 := sc_at w3 ⟨w.heap.size + 1 + 1, 0, none⟩ (.string s1) rfl q
    have t1 := sc_at _ ⟨w.heap.size + 1 + 1, 1, none⟩ (.string s2) rfl t0
    have t2 := (heap_past' _ (.cells #[.string s1, .string s2] 44) (Array.getElem?_eq_some_iff.1 t1).1).trans t1
    refine bodyPost_ret (results_ct rfl _ _ _ _ _ _ _ rfl t2 Tryz.underlying44 rfl (by kernel_rfl)) rfl ⟨rfl, ?_⟩
    have hz := HB3.out.size
    have hz0 := H1.out.2.1
    exact (((H1.out.1.trans (HB3.out.mono (by omega))).setCell (p := ⟨w.heap.size + 1 + 1, 0, none⟩) (by simp only; omega) _).setCell (p := ⟨w.heap.size + 1 + 1, 1, none⟩) (by simp only; omega) _).alloc (by simp; omega) _
end Go.Proofs.YtbenflnpnohcjaaGreatDoor

namespace Go.Proofs.YtbenflnpnohcjaaGreatDoor
open Go.RowKit Go.Shelf

theorem list_eq_of {α : Type} {l m : List α} (hl : l.length = m.length) (h : ∀ j, j < l.length → l[j]? = m[j]?) : l = m := by
  apply List.ext_getElem?
  intro i
  by_cases hi : i < l.length
  · exact h i hi
  · rw [List.getElem?_eq_none (by omega), List.getElem?_eq_none (by omega)]

set_option maxRecDepth 100000 in
set_option maxHeartbeats 1000000 in
theorem ints_any (A A' : Option Addr) (c c' : Nat) (l m : List Int) (w : World) (h1 : SlAt w A l) (h2 : SlAt w A' m) (hl : l.length ≤ 1000000000) (b : Bool) (hb : b = true ↔ l = m) :
    Calls Tryz.prog 35 #[.slice A l.length c, .slice A' m.length c'] w fun e w' => e = .returned (.bool b) ∧ Below w.heap.size w w' := by
  by_cases hne : l.length = m.length
  · have HNE := Lib.hid hne
    have hnb : ((l.length : Int) != (m.length : Int)) = false := by rw [hne]; simp
    have HB := Lib.hid hb
    clear hne hb
    go_enter Tryz.func35, Tryz.ntmps35
    go_wp2
    go_loopw [5] (fun si wr => ∃ k : Nat, si = .int .i64 (k : Int) ∧ k ≤ l.length ∧ Aside ((∀ j, j < k → l[j]? = m[j]?) ∧ Below w.heap.size w wr)) (fun si _ => l.length - (intOf si).toNat)
    case atStart => exact ⟨0, rfl, Nat.zero_le _, fun j hj => absurd hj (by omega), Below.refl _ _⟩
    case round =>
      obtain ⟨k, rfl, hk, has⟩ := hrel
      by_cases hkl : k < l.length
      · obtain ⟨heq, hB⟩ := has.out
        obtain ⟨g, rfl, hg⟩ : ∃ b, A = some ⟨b, 0, none⟩ ∧ IntsAt w b l := by
          rcases h1 with h' | h'
          · rw [h'] at hkl; simp at hkl
          · exact h'
        obtain ⟨g', rfl, hg'⟩ : ∃ b, A' = some ⟨b, 0, none⟩ ∧ IntsAt w b m := by
          rcases h2 with h' | h'
          · have := HNE.out; rw [h'] at this; simp at this; rw [this] at hkl; simp at hkl
          · exact h'
        have e1 := cell_below hB (hg.2 k (by omega))
        have e2 := cell_below hB (hg'.2 k (by have := HNE.out; omega))
        have hkz : (k : Int) < (l.length : Int) := by omega
        have hkm : (k : Int) < (m.length : Int) := by have := HNE.out; omega
        have x1 : l[k]? = some (l.getD k 0) := by rw [List.getD_eq_getElem?_getD, List.getElem?_eq_getElem hkl]; rfl
        have x2 : m[k]? = some (m.getD k 0) := by rw [List.getD_eq_getElem?_getD, List.getElem?_eq_getElem (by have := HNE.out; omega)]; rfl
        have HS := Lib.hid (And.intro heq (And.intro hB (And.intro x1 x2)))
        generalize l.getD k 0 = x at *
        generalize m.getD k 0 = y at *
        clear heq hB has hg hg' x1 x2 h1 h2
        by_cases hxy : x = y
        · subst hxy
          go_wp2
          go_quiet (fail)
          go_wp2
          go_roundw
          case rel =>
            refine ⟨k + 1, by go_num, by omega, fun j hj => ?_, HS.out.2.1.trans ((below_drewN'' _ _).mono HS.out.2.1.size)⟩
            by_cases hjk : j < k
            · exact HS.out.1 j hjk
            · obtain rfl : j = k := by omega
              rw [HS.out.2.2.1, HS.out.2.2.2]
          case measure => simp [intOf] <;> omega
        · have hxb : (x != y) = true := by simp [hxy]
          have HXY := Lib.hid hxy
          clear hxy
          go_wp2
          go_quiet (fail)
          go_wp2
          go_ret
          refine ⟨?_, HS.out.2.1.trans ((below_drewN'' _ _).mono HS.out.2.1.size)⟩
          have : b = false := by
            cases b
            · rfl
            · have := HB.out.1 rfl
              have h3 := HS.out.2.2.1
              rw [this, HS.out.2.2.2] at h3
              exact absurd (Option.some.inj h3).symm HXY.out
          rw [this]; rfl
      · obtain rfl : k = l.length := by omega
        have hkz : ¬ (l.length : Int) < (l.length : Int) := by omega
        go_wp2
        go_ret
        refine ⟨?_, has.out.2⟩
        have : b = true := HB.out.2 (list_eq_of HNE.out has.out.1)
        rw [this]; rfl
  · have hnb : ((l.length : Int) != (m.length : Int)) = true := by simp; omega
    have hbf : b = false := by
      cases b
      · rfl
      · exact absurd (by rw [hb.1 rfl]) hne
    subst hbf
    clear hne hb
    go_enter Tryz.func35, Tryz.ntmps35
    go_wp2
    go_ret
    exact ⟨rfl, Below.refl _ _⟩

/-! Priced spells. -/
def cellsP (p : Tf.Pc) : List Value := [.int .i64 p.frm, .int .i64 p.til, .int .i64 p.price]
def PcsAt (w : World) (A : Option Addr) (l : List Tf.Pc) : Prop := l = [] ∨ ∃ b, A = some ⟨b, 0, none⟩ ∧ b < w.heap.size ∧ ∀ j p, l[j]? = some p → ∀ i v, (cellsP p)[i]? = some v → w.cell? ⟨b, j * 3 + i, none⟩ = some v
theorem PcsAt.below {w w' : World} {A : Option Addr} {l : List Tf.Pc} (h : PcsAt w A l) (hb : Below w.heap.size w w') : PcsAt w' A l := by
  rcases h with h | ⟨b, h1, h2, h3⟩
  · exact .inl h
  · exact .inr ⟨b, h1, Nat.lt_of_lt_of_le h2 hb.size, fun j p hj i v hi => cell_below hb (h3 j p hj i v hi)⟩

theorem Tryz.neqPriced (f t p f' t' p' : Int) (w : World) : (binOp .neq 64 (.agg #[.int .i64 f, .int .i64 t, .int .i64 p]) (.agg #[.int .i64 f', .int .i64 t', .int .i64 p'])).run Tryz.prog w = .ok (.bool (!(f == f' && t == t' && p == p'))) w := by
  obtain ⟨d, hd⟩ : ∃ d : Nat, (10000 : Nat) = d + 1 + 1 + 1 := ⟨9997, rfl⟩
  rw [run_neq_struct, hd, run_equalIn_agg w (d + 1 + 1) 64 _ _ (by kernel_rfl) (by kernel_rfl)]
  clear hd
  simp only [Program.fieldsOf, Tryz.underlying64]
  have e28 : (Op.equalIn (d + 1 + 1) 28 (.agg #[.int .i64 f, .int .i64 t]) (.agg #[.int .i64 f', .int .i64 t'])).run Tryz.prog w = .ok (f == f' && t == t') w := by
    rw [run_equalIn_agg w (d + 1) 28 _ _ (by kernel_rfl) (by kernel_rfl)]
    simp only [Program.fieldsOf, Tryz.underlying28]
    have u3 := Tryz.underlying3
    have a3 := Tryz.isAgg3
    have z3 := Tryz.sizeOf3
    go_simp
    by_cases h1 : f = f' <;> by_cases h2 : t = t' <;> simp [h1, h2]
  have u3 := Tryz.underlying3
  have a3 := Tryz.isAgg3
  have z3 := Tryz.sizeOf3
  have a28 := Tryz.isAgg28
  have z28 := Tryz.sizeOf28
  go_simp
  by_cases h1 : f = f' <;> by_cases h2 : t = t' <;> by_cases h3 : p = p' <;> simp [h1, h2, h3]

set_option maxRecDepth 100000 in
set_option maxHeartbeats 1000000 in
theorem same_any (A A' : Option Addr) (c c' : Nat) (l m : List Tf.Pc) (w : World) (h1 : PcsAt w A l) (h2 : PcsAt w A' m) (hl : l.length ≤ 1000000000) (b : Bool) (hb : b = true ↔ l = m) :
    Calls Tryz.prog 34 #[.slice A l.length c, .slice A' m.length c'] w fun e w' => e = .returned (.bool b) ∧ Below w.heap.size w w' := by
  by_cases hne : l.length = m.length
  · have HNE := Lib.hid hne
    have hnb : ((l.length : Int) != (m.length : Int)) = false := by rw [hne]; simp
    have HB := Lib.hid hb
    clear hne hb
    go_enter Tryz.func34, Tryz.ntmps34
    go_wp2
    go_loopw [5] (fun si wr => ∃ k : Nat, si = .int .i64 (k : Int) ∧ k ≤ l.length ∧ Aside ((∀ j, j < k → l[j]? = m[j]?) ∧ Below w.heap.size w wr)) (fun si _ => l.length - (intOf si).toNat)
    case atStart => exact ⟨0, rfl, Nat.zero_le _, fun j hj => absurd hj (by omega), Below.refl _ _⟩
    case round =>
      obtain ⟨k, rfl, hk, has⟩ := hrel
      by_cases hkl : k < l.length
      · obtain ⟨heq, hB⟩ := has.out
        obtain ⟨x, x1⟩ : ∃ x, l[k]? = some x := ⟨_, List.getElem?_eq_getElem hkl⟩
        obtain ⟨y, x2⟩ : ∃ x, m[k]? = some x := ⟨_, List.getElem?_eq_getElem (by have := HNE.out; omega)⟩
        obtain ⟨g, rfl, hg⟩ : ∃ b, A = some ⟨b, 0, none⟩ ∧ ∀ i v, (cellsP x)[i]? = some v → w.cell? ⟨b, k * 3 + i, none⟩ = some v := by
          rcases h1 with h' | ⟨b, h', _, h''⟩
          · rw [h'] at hkl; simp at hkl
          · exact ⟨b, h', h'' k x x1⟩
        obtain ⟨g', rfl, hg'⟩ : ∃ b, A' = some ⟨b, 0, none⟩ ∧ ∀ i v, (cellsP y)[i]? = some v → w.cell? ⟨b, k * 3 + i, none⟩ = some v := by
          rcases h2 with h' | ⟨b, h', _, h''⟩
          · have := HNE.out; rw [h'] at this; simp at this; rw [this] at hkl; simp at hkl
          · exact ⟨b, h', h'' k y x2⟩
        have a0 := cell_below hB (hg 0 _ rfl)
        have a1 := cell_below hB (hg 1 _ rfl)
        have a2 := cell_below hB (hg 2 _ rfl)
        have b0 := cell_below hB (hg' 0 _ rfl)
        have b1 := cell_below hB (hg' 1 _ rfl)
        have b2 := cell_below hB (hg' 2 _ rfl)
        rw [Nat.add_zero] at a0 b0
        have hkz : (k : Int) < (l.length : Int) := by omega
        have hkm : (k : Int) < (m.length : Int) := by have := HNE.out; omega
        have HS := Lib.hid (And.intro heq (And.intro hB (And.intro x1 x2)))
        clear heq hB has hg hg' x1 x2 h1 h2
        obtain ⟨xf, xt, xp⟩ := x
        obtain ⟨yf, yt, yp⟩ := y
        simp only at a0 a1 a2 b0 b1 b2
        have hnq := fun W => Tryz.neqPriced xf xt xp yf yt yp W
        by_cases hxy : (xf == yf && xt == yt && xp == yp) = true
        · rw [hxy] at hnq
          have HXY := Lib.hid hxy
          clear hxy
          go_wp2
          go_quiet (fail)
          go_wp2
          go_roundw
          case rel =>
            refine ⟨k + 1, by go_num, by omega, fun j hj => ?_, HS.out.2.1.trans ((below_drewN'' _ _).mono HS.out.2.1.size)⟩
            by_cases hjk : j < k
            · exact HS.out.1 j hjk
            · obtain rfl : j = k := by omega
              have h3 := HXY.out
              simp only [Bool.and_eq_true, beq_iff_eq] at h3
              obtain ⟨⟨h4, h5⟩, h6⟩ := h3
              rw [HS.out.2.2.1, HS.out.2.2.2, h4, h5, h6]
          case measure => simp [intOf] <;> omega
        · have hxb : (xf == yf && xt == yt && xp == yp) = false := by
            cases h9 : (xf == yf && xt == yt && xp == yp)
            · rfl
            · exact absurd h9 hxy
          rw [hxb] at hnq
          have HXY := Lib.hid hxb
          clear hxy hxb
          go_wp2
          go_quiet (fail)
          go_wp2
          go_ret
          refine ⟨?_, HS.out.2.1.trans ((below_drewN'' _ _).mono HS.out.2.1.size)⟩
          have : b = false := by
            cases b
            · rfl
            · have := HB.out.1 rfl
              have h3 := HS.out.2.2.1
              rw [this, HS.out.2.2.2] at h3
              have h4 := Option.some.inj h3
              have h5 := HXY.out
              cases h4
              simp at h5
          rw [this]; rfl
      · obtain rfl : k = l.length := by omega
        have hkz : ¬ (l.length : Int) < (l.length : Int) := by omega
        go_wp2
        go_ret
        refine ⟨?_, has.out.2⟩
        have : b = true := HB.out.2 (list_eq_of HNE.out has.out.1)
        rw [this]; rfl
  · have hnb : ((l.length : Int) != (m.length : Int)) = true := by simp; omega
    have hbf : b = false := by
      cases b
      · rfl
      · exact absurd (by rw [hb.1 rfl]) hne
    subst hbf
    clear hne hb
    go_enter Tryz.func34, Tryz.ntmps34
    go_wp2
    go_ret
    exact ⟨rfl, Below.refl _ _⟩
end Go.Proofs.YtbenflnpnohcjaaGreatDoor

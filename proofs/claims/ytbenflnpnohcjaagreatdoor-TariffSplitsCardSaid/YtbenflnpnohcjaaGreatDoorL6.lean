/- The law TariffPrices: its walk. -/
import Derived.Test.YtbenflnpnohcjaaGreatDoorL5
namespace Go.Proofs.YtbenflnpnohcjaaGreatDoor
open Go.RowKit Go.Shelf

/-- append's new value stored back into the first cell of a block below the rows: all else stays. -/
theorem appG {W w1 : World} {B base e size n n' : Nat} {v v' x : Value} {t : TypeId} {xs xs' : List Value} {tmp : Obj} (hv : W.heap[B]? = some (.cells #[v, x] t (0, 0))) (hrow : W.ownsRow base e size v n xs) (hB : B < base)
    (hown' : w1.ownsRow base e size v' n' xs') (hgrow : (W.alloc tmp).grownBy w1 v.ownBlock) :
    w1.heap[B]? = some (.cells #[v, x] t (0, 0)) ∧ (w1.setCell ⟨B, 0, none⟩ v').heap[B]? = some (.cells #[v', x] t (0, 0)) ∧ (w1.setCell ⟨B, 0, none⟩ v').ownsRow base e size v' n' xs' ∧
      (∀ k, k < W.heap.size → k ≠ B → v.ownBlock ≠ some k → (w1.setCell ⟨B, 0, none⟩ v').heap[k]? = W.heap[k]?) ∧ W.heap.size < (w1.setCell ⟨B, 0, none⟩ v').heap.size ∧
      (∀ H, H ≤ B → H ≤ base → H ≤ W.heap.size → Below H W (w1.setCell ⟨B, 0, none⟩ v')) := by
  have hlt : ∀ k, v.ownBlock = some k → base ≤ k := fun k hk => (hrow.lt k hk).1
  have hBW : B < W.heap.size := (Array.getElem?_eq_some_iff.1 hv).1
  have h1 : w1.heap[B]? = some (.cells #[v, x] t (0, 0)) := by
    rw [hgrow.block B (by simp; omega) (fun e => by have := hlt B e.symm; omega), heap_past' _ _ hBW]; exact hv
  have h2 : (w1.setCell ⟨B, 0, none⟩ v').heap[B]? = some (.cells #[v', x] t (0, 0)) := sc_at w1 ⟨B, 0, none⟩ v' rfl h1
  refine ⟨h1, h2, ownsRow_setCell_below hown' hB _, ?_, ?_, ?_⟩
  · intro k hk hne ho
    rw [Below.heap_setCell _ _ _ _ hne, hgrow.block k (by simp; omega) (fun e => ho e.symm), heap_past' _ _ hk]
  · have := hgrow.size
    simp only [World.size_alloc] at this
    simp only [World.size_setCell]
    omega
  · intro H hH hHb hHW
    exact (((Below.refl H W).alloc hHW tmp).grown hgrow (by simp; omega) (fun k hk => by have := hlt k hk; omega)).setCell (p := ⟨B, 0, none⟩) hH _

def sepB (v u : Value) : Prop := ∀ g, v.ownBlock = some g → u.ownBlock ≠ some g
theorem sepB.ne {v u : Value} (h : sepB v u) : u.ownBlock = none ∨ u.ownBlock ≠ v.ownBlock := by
  cases hu : u.ownBlock with
  | none => exact .inl rfl
  | some g => exact .inr (fun e => h g e.symm hu)

/-- What a round of the law on prices keeps. -/
structure PrI (w W0 wr : World) (H B3 B4 : Nat) (x : Tf.Tariff) (mm : Int) (k : Nat) : Prop where
  size : H ≤ wr.heap.size
  below : Below w.heap.size w wr
  same : ∀ j, j < H → j ≠ B3 → j ≠ B4 → wr.heap[j]? = W0.heap[j]?
  rows : ∃ v1 v2 lo, wr.heap[B3]? = some (.cells #[v1, .int .i64 (mm * x.base)] 26 (0, 0)) ∧ wr.heap[B4]? = some (.cells #[v2, .int .i64 x.base] 26 (0, 0)) ∧ wr.ownsRow H 68 4 v1 k (flatR ((x.rates.take k).map (Tf.timesR mm))) ∧ wr.ownsRow H 68 4 v2 k (flatR lo) ∧ lo.length = k ∧ Tf.Low (x.rates.take k) lo ∧ sepB v1 v2

/-- Between the two appends of a round. -/
structure PrM (w W0 wx : World) (H B3 B4 R k : Nat) (x : Tf.Tariff) (mm : Int) (v1 v2 : Value) (lo : List Tf.Rate) (d f t q : Int) : Prop where
  hR : H ≤ R
  below : Below w.heap.size w wx
  same : ∀ j, j < H → j ≠ B3 → j ≠ B4 → wx.heap[j]? = W0.heap[j]?
  b3 : wx.heap[B3]? = some (.cells #[v1, .int .i64 (mm * x.base)] 26 (0, 0))
  b4 : wx.heap[B4]? = some (.cells #[v2, .int .i64 x.base] 26 (0, 0))
  r1 : wx.ownsRow H 68 4 v1 (k + 1) (flatR ((x.rates.take (k + 1)).map (Tf.timesR mm)))
  r2 : wx.ownsRow H 68 4 v2 k (flatR lo)
  sep : sepB v1 v2
  n1 : v1.ownBlock ≠ some R
  n2 : v2.ownBlock ≠ some R
  row : wx.heap[R]? = some (.cells #[.int .i64 d, .int .i64 f, .int .i64 t, .int .i64 q] 68 (0, 0))
theorem PrM.set {w W0 wx : World} {H B3 B4 R k : Nat} {x : Tf.Tariff} {mm : Int} {v1 v2 : Value} {lo : List Tf.Rate} {d f t q : Int} (h : PrM w W0 wx H B3 B4 R k x mm v1 v2 lo d f t q) (hw : w.heap.size ≤ H) (h3 : B3 < H) (h4 : B4 < H) (q' : Int) :
    PrM w W0 (wx.setCell ⟨R, 3, none⟩ (.int .i64 q')) H B3 B4 R k x mm v1 v2 lo d f t q' := by
  have hR := h.hR
  refine ⟨h.hR, h.below.setCell (p := ⟨R, 3, none⟩) (by show w.heap.size ≤ R; omega) _, ?_, ?_, ?_, ownsRow_setCell_other h.r1 h.n1 _, ownsRow_setCell_other h.r2 h.n2 _, h.sep, h.n1, h.n2, sc_row _ _ 3 _ h.row⟩
  · intro j hj h1 h2
    rw [sc_other _ ⟨R, 3, none⟩ j _ (by show j ≠ R; omega)]
    exact h.same j hj h1 h2
  · rw [sc_other _ ⟨R, 3, none⟩ B3 _ (by show B3 ≠ R; omega)]; exact h.b3
  · rw [sc_other _ ⟨R, 3, none⟩ B4 _ (by show B4 ≠ R; omega)]; exact h.b4

/-- The rate's price behind the cut. -/
def PrQ (w W0 wx : World) (H B3 B4 R k : Nat) (x : Tf.Tariff) (mm : Int) (v1 v2 : Value) (lo : List Tf.Rate) (d f t p : Int) : Prop := ∃ q, 0 ≤ q ∧ q ≤ p ∧ PrM w W0 wx H B3 B4 R k x mm v1 v2 lo d f t q

theorem pr_first {w W0 wr w1 : World} {H B3 B4 k : Nat} {x : Tf.Tariff} {mm d f t p : Int} {v1 v2 v1' : Value} {lo : List Tf.Rate} {tmp : Obj} (hw : w.heap.size ≤ B3) (h34 : B3 < B4) (h4 : B4 < H) (hk : k < x.rates.length) (hx : x.rates[k]! = ⟨d, f, t, p⟩)
    (hsz : H ≤ wr.heap.size) (hbel : Below w.heap.size w wr) (hsame : ∀ j, j < H → j ≠ B3 → j ≠ B4 → wr.heap[j]? = W0.heap[j]?)
    (hb3 : wr.heap[B3]? = some (.cells #[v1, .int .i64 (mm * x.base)] 26 (0, 0))) (hb4 : wr.heap[B4]? = some (.cells #[v2, .int .i64 x.base] 26 (0, 0))) (hr1 : wr.ownsRow H 68 4 v1 k (flatR ((x.rates.take k).map (Tf.timesR mm)))) (hr2 : wr.ownsRow H 68 4 v2 k (flatR lo)) (hsep : sepB v1 v2)
    {W5 : World} (hW5 : W5 = wr.alloc (.cells #[.int .i64 d, .int .i64 f, .int .i64 t, .int .i64 (mm * p)] 68))
    (hown' : w1.ownsRow H 68 4 v1' (k + 1) (flatR ((x.rates.take k).map (Tf.timesR mm)) ++ [.int .i64 d, .int .i64 f, .int .i64 t, .int .i64 (mm * p)])) (hgrow : (W5.alloc tmp).grownBy w1 v1.ownBlock) (hat : v1'.ownBlock = v1.ownBlock ∨ v1'.ownBlock = some (W5.alloc tmp).heap.size) :
    w1.heap[B3]? = some (.cells #[v1, .int .i64 (mm * x.base)] 26 (0, 0)) ∧ PrM w W0 (w1.setCell ⟨B3, 0, none⟩ v1') H B3 B4 wr.heap.size k x mm v1' v2 lo d f t (mm * p) := by
  have hb5 : W5.heap[B3]? = some (.cells #[v1, .int .i64 (mm * x.base)] 26 (0, 0)) := by rw [hW5, heap_past' _ _ (by omega)]; exact hb3
  have hr15 : W5.ownsRow H 68 4 v1 k (flatR ((x.rates.take k).map (Tf.timesR mm))) := by rw [hW5]; exact hr1.alloc _
  obtain ⟨a1, a2, a3, a4, a5, a6⟩ := appG hb5 hr15 (by omega) hown' hgrow
  have hs5 : W5.heap.size = wr.heap.size + 1 := by rw [hW5]; simp
  have l1 : ∀ g, v1.ownBlock = some g → g < wr.heap.size := fun g hg => (hr1.lt g hg).2
  have l2 : ∀ g, v2.ownBlock = some g → H ≤ g ∧ g < wr.heap.size := fun g hg => hr2.lt g hg
  have hb5w : Below w.heap.size w W5 := by rw [hW5]; exact hbel.trans ((below_al1 wr _).mono hbel.size)
  have old : ∀ j, j < H → j ≠ B3 → (w1.setCell ⟨B3, 0, none⟩ v1').heap[j]? = wr.heap[j]? := by
    intro j hj hne
    rw [a4 j (by omega) hne (fun e => by have := (hr1.lt j e).1; omega), hW5, heap_past' _ _ (by omega)]
  have hflat : flatR ((x.rates.take (k + 1)).map (Tf.timesR mm)) = flatR ((x.rates.take k).map (Tf.timesR mm)) ++ [.int .i64 d, .int .i64 f, .int .i64 t, .int .i64 (mm * p)] := by
    rw [List.take_succ_eq_append_getElem hk, List.map_append, flatR_append]
    rw [getElem!_pos x.rates k hk] at hx
    rw [hx]
    rfl
  refine ⟨a1, ⟨hsz, hb5w.trans (a6 _ hw (by omega) hb5w.size), ?_, a2, ?_, ?_, ?_, ?_, ?_, ?_, ?_⟩⟩
  · intro j hj h1 h2
    rw [old j hj h1]; exact hsame j hj h1 h2
  · rw [old B4 h4 (by omega)]; exact hb4
  · rw [hflat]; exact a3
  · have q1 : (W5.alloc tmp).ownsRow H 68 4 v2 k (flatR lo) := by rw [hW5]; exact (hr2.alloc _).alloc _
    exact ownsRow_setCell_below (q1.kept hgrow hsep.ne) (by show B3 < H; omega) _
  · intro g hg e
    rcases hat with h | h
    · rw [h] at hg; exact hsep g hg e
    · rw [h] at hg
      have := (l2 g e).2
      simp only [World.size_alloc, Option.some.injEq] at hg
      omega
  · intro e
    rcases hat with h | h
    · rw [h] at e; have := l1 _ e; omega
    · rw [h] at e
      simp only [World.size_alloc, Option.some.injEq] at e
      omega
  · intro e
    have := (l2 _ e).2
    omega
  · rw [a4 wr.heap.size (by omega) (by omega) (fun e => by have := l1 _ e; omega), hW5]
    exact heap_at' _ _ rfl

theorem pr_second {w W0 wx w1 : World} {H B3 B4 R k : Nat} {x : Tf.Tariff} {mm d f t p q : Int} {v1 v2 v2' : Value} {lo : List Tf.Rate} {tmp : Obj} (hw : w.heap.size ≤ B3) (h34 : B3 < B4) (h4 : B4 < H) (hk : k < x.rates.length) (hx : x.rates[k]! = ⟨d, f, t, p⟩) (hll : lo.length = k) (hlow : Tf.Low (x.rates.take k) lo) (hq : 0 ≤ q ∧ q ≤ p)
    (h : PrM w W0 wx H B3 B4 R k x mm v1 v2 lo d f t q)
    (hown' : w1.ownsRow H 68 4 v2' (k + 1) (flatR lo ++ [.int .i64 d, .int .i64 f, .int .i64 t, .int .i64 q])) (hgrow : (wx.alloc tmp).grownBy w1 v2.ownBlock) (hat : v2'.ownBlock = v2.ownBlock ∨ v2'.ownBlock = some (wx.alloc tmp).heap.size) :
    w1.heap[B4]? = some (.cells #[v2, .int .i64 x.base] 26 (0, 0)) ∧ PrI w W0 (w1.setCell ⟨B4, 0, none⟩ v2') H B3 B4 x mm (k + 1) := by
  obtain ⟨a1, a2, a3, a4, a5, a6⟩ := appG h.b4 h.r2 h4 hown' hgrow
  have hRx : R < wx.heap.size := (Array.getElem?_eq_some_iff.1 h.row).1
  have hR := h.hR
  have l2 : ∀ g, v2.ownBlock = some g → H ≤ g ∧ g < wx.heap.size := fun g hg => h.r2.lt g hg
  have l1 : ∀ g, v1.ownBlock = some g → H ≤ g ∧ g < wx.heap.size := fun g hg => h.r1.lt g hg
  have old : ∀ j, j < H → j ≠ B4 → (w1.setCell ⟨B4, 0, none⟩ v2').heap[j]? = wx.heap[j]? := by
    intro j hj hne
    exact a4 j (by omega) hne (fun e => by have := (l2 j e).1; omega)
  refine ⟨a1, ⟨by omega, h.below.trans (a6 _ (by omega) (by omega) h.below.size), ?_, v1, v2', lo ++ [⟨d, f, t, q⟩], ?_, a2, ?_, ?_, by simp [hll], ?_, ?_⟩⟩
  · intro j hj h1 h2
    rw [old j hj h2]; exact h.same j hj h1 h2
  · rw [old B3 (by omega) (by omega)]; exact h.b3
  · have hs : v1.ownBlock = none ∨ v1.ownBlock ≠ v2.ownBlock := by
      cases hu : v1.ownBlock with
      | none => exact .inl rfl
      | some g => exact .inr (fun e => h.sep g hu e.symm)
    exact ownsRow_setCell_below ((h.r1.alloc _).kept hgrow hs) h4 _
  · rw [flatR_append]; exact a3
  · rw [List.take_succ_eq_append_getElem hk]
    rw [getElem!_pos x.rates k hk] at hx
    rw [hx]
    exact hlow.snoc rfl rfl rfl hq.1 hq.2
  · intro g hg e
    rcases hat with h' | h'
    · rw [h'] at e; exact h.sep g hg e
    · rw [h'] at e
      have := (l1 g hg).2
      simp only [World.size_alloc, Option.some.injEq] at e
      omega

set_option maxRecDepth 100000 in
set_option maxHeartbeats 4000000 in
theorem pricesLaw_any (A : Option Addr) (n c : Nat) (y : Nat → Nat → Int) (A2 : Option Addr) (m c2 : Nat) (u : Nat → Int) (bs z0 x0 y0 k0 : Int) (w : World) (ht : Tab w) (hX : XsAt w A n y) (hn : n ≤ 9223372036854775807) (hU : IsAt w A2 m u) (hm : m ≤ 9223372036854775807) (hb : rng bs) (h0 : rng z0) (h1 : rng x0) (h2 : rng y0) (h3 : rng k0) :
    Calls Tryz.prog 10 #[.int .i64 bs, .slice A n c, .int .i64 z0, .int .i64 x0, .int .i64 y0, .int .i64 k0, .slice A2 m c2] w fun e w' => e = .returned (.bool true) ∧ Below w.heap.size w w' := by
  have HS := Lib.hid (sane_any w ht)
  have HM := Lib.hid (fun W (h : Below w.heap.size w W) => made_ok (W := W) A n c y bs hb (hX.below h) hn)
  have HZ := Lib.hid (fun W => zoned_any z0 h0.1 h0.2 W)
  have HD := Lib.hid (fun W => during_any x0 y0 h1.1 h1.2 h2.1 h2.2 W)
  have HK := Lib.hid (fun W => lpick_any k0 1000 h3 (by decide) (by decide) W)
  have HU := Lib.hid hU
  have HMM := Lib.hid hm
  clear ht hX hb h0 h1 h2 h3 hn hU hm
  go_enter Tryz.func10, Tryz.ntmps10
  go_wp2_with (first
    | (go_at_call 14; (with_reducible refine HS.out.mono ?_); rintro e w1 ⟨rfl, hb1⟩)
    | (go_at_call 15; (with_reducible refine (HM.out _ hb1).mono ?_); rintro e w2 ⟨⟨x, A', c', rfl, hT, hxb, hxp, hxl⟩, hb2⟩; have HXP := Lib.hid (And.intro hxp hT); clear hxp; have C2 := Ctx.new (c := c') hb1 hb2 hT)
    | (go_at_call 20; (with_reducible refine (HZ.out _).mono ?_); rintro e wz ⟨⟨z, rfl, hz1, hz2⟩, rfl⟩)
    | (go_at_call 23; (with_reducible refine (HD.out _).mono ?_); rintro e w3 ⟨⟨a, b, rfl, ha0, ha1, hab, hb0⟩, hb3⟩; have C3 := (C2.go hb3).go (below_al1 w3 (.cells #[.int .i64 a, .int .i64 b] 28)); have p1 := C3.x0; have p2 := C3.x1))
  refine (HK.out _).mono ?_
  rintro e wy ⟨⟨mm, rfl, hm1, hm2⟩, rfl⟩
  have hbase := ((Tf.okT_iff x).1 C3.tar.ok).1
  have hmb : 0 ≤ mm * x.base ∧ mm * x.base ≤ 1000000 := by
    refine ⟨Int.mul_nonneg hm1 hbase.1, ?_⟩
    have := Int.mul_le_mul (by omega : mm ≤ 1000) (by omega : x.base ≤ 1000) hbase.1 (by omega)
    omega
  have q1 : IntKind.i64.wrap (mm * x.base) = mm * x.base := IntWalk.i64_in _ (by omega)
  have C4 := C3.go (below_al1 _ (.cells #[.slice none 0 0, .int .i64 (mm * x.base)] 26))
  have p3 := C4.x0
  have p4 := C4.x1
  have C5 := C4.go (below_al1 _ (.cells #[.slice none 0 0, .int .i64 x.base] 26))
  have hs3 : w2.heap.size + 1 ≤ w3.heap.size := by have := hb3.size; simpa using this
  have hw20 : Below w2.heap.size w2 (((w3.alloc (.cells #[.int .i64 a, .int .i64 b] 28)).alloc (.cells #[.slice none 0 0, .int .i64 (mm * x.base)] 26)).alloc (.cells #[.slice none 0 0, .int .i64 x.base] 26)) :=
    bt (bt (bt (bt (below_al1 w2 _) hb3) (below_al1 w3 _)) (below_al1 _ _)) (below_al1 _ _)
  have hk2 : (((w3.alloc (.cells #[.int .i64 a, .int .i64 b] 28)).alloc (.cells #[.slice none 0 0, .int .i64 (mm * x.base)] 26)).alloc (.cells #[.slice none 0 0, .int .i64 x.base] 26)).heap[w3.heap.size]? = some (.cells #[.int .i64 a, .int .i64 b] 28 (0, 0)) := by
    rw [heap_past' _ _ (by simp; omega), heap_past' _ _ (by simp), heap_at' _ _ rfl]
  have hk3 : (((w3.alloc (.cells #[.int .i64 a, .int .i64 b] 28)).alloc (.cells #[.slice none 0 0, .int .i64 (mm * x.base)] 26)).alloc (.cells #[.slice none 0 0, .int .i64 x.base] 26)).heap[w3.heap.size + 1]? = some (.cells #[.slice none 0 0, .int .i64 (mm * x.base)] 26 (0, 0)) := by
    rw [heap_past' _ _ (by simp), heap_at' _ _ (by simp)]
  have hk4 : (((w3.alloc (.cells #[.int .i64 a, .int .i64 b] 28)).alloc (.cells #[.slice none 0 0, .int .i64 (mm * x.base)] 26)).alloc (.cells #[.slice none 0 0, .int .i64 x.base] 26)).heap[w3.heap.size + 1 + 1]? = some (.cells #[.slice none 0 0, .int .i64 x.base] 26 (0, 0)) := heap_at' _ _ (by simp)
  have hsz0 : (((w3.alloc (.cells #[.int .i64 a, .int .i64 b] 28)).alloc (.cells #[.slice none 0 0, .int .i64 (mm * x.base)] 26)).alloc (.cells #[.slice none 0 0, .int .i64 x.base] 26)).heap.size = w3.heap.size + 3 := by simp
  have HW2 := Lib.hid (show w.heap.size ≤ w2.heap.size from Nat.le_trans hb1.size hb2.size)
  have HW0 := Lib.hid (And.intro hw20 (And.intro hk2 (And.intro hk3 (And.intro hk4 (And.intro hsz0 C5)))))
  clear hw20 hk2 hk3 hk4 hsz0 C5
  go_wp2
  clear p1 p2 p3 p4 C2 C3 C4 q1
  obtain ⟨W0, hW0⟩ : ∃ W, (((w3.alloc (.cells #[.int .i64 a, .int .i64 b] 28)).alloc (.cells #[.slice none 0 0, .int .i64 (mm * x.base)] 26)).alloc (.cells #[.slice none 0 0, .int .i64 x.base] 26)) = W := ⟨_, rfl⟩
  rw [hW0] at HW0 ⊢
  clear hW0 hb1 hb2 hb3 HS HM HZ HD HK
  have HWB := Lib.hid (show w.heap.size ≤ w3.heap.size + 1 by have h1 := HW0.out.2.2.2.2.2.below.size; have h2 := hs3; have h3 := HW2.out; omega)
  have HBS := Lib.hid hs3
  clear hs3
  generalize w3.heap.size = B2 at *
  obtain ⟨i0, hi, hz0, hz1', hz2'⟩ := info_parts Tryz.info68
  go_loopw [21] (fun v21 wr => ∃ k : Nat, v21 = .int .i64 (k : Int) ∧ k ≤ x.rates.length ∧ Aside (PrI w W0 wr (B2 + 3) (B2 + 1) (B2 + 1 + 1) x mm k)) (fun v21 _ => x.rates.length - (intOf v21).toNat)
  case atStart =>
    obtain ⟨-, -, h3, h4, h5, h6⟩ := HW0.out
    exact ⟨0, rfl, Nat.zero_le _, by omega, h6.below, fun _ _ _ _ => rfl, _, _, [], h3, h4, World.ownsRow_nil _ _ _ _, World.ownsRow_nil _ _ _ _, rfl, Tf.Low.nil, fun g hg => by simp [Value.ownBlock] at hg⟩
  case round =>
    obtain ⟨k, rfl, hk, I⟩ := hrel
    have hsm : ∀ j, j < B2 + 1 → wr.heap[j]? = W0.heap[j]? := fun j hj => I.out.same j (by omega) (by omega) (by omega)
    have hB12 := HBS.out
    have c0 : wr.cell? ⟨w2.heap.size, 0, none⟩ = some (.slice A' x.rates.length c') := (World.cell?_of_block (a := ⟨w2.heap.size, 0, none⟩) (hsm _ (by show w2.heap.size < _; omega))).trans HW0.out.2.2.2.2.2.x0
    by_cases hkl : k < x.rates.length
    · obtain ⟨v1, v2, lo, hb3, hb4, hr1, hr2, hll, hlow, hsep⟩ := I.out.rows
      obtain ⟨bR, off, rfl, hbR, hcR⟩ : ∃ b off, A' = some ⟨b, off, none⟩ ∧ b < w2.heap.size ∧ ∀ j, j < x.rates.length → ∀ i v, (encR x.rates[j]!)[i]? = some v → w2.cell? ⟨b, off + j * 4 + i, none⟩ = some v := by
        rcases hT.rates with h | h
        · rw [h] at hkl; simp at hkl
        · exact h
      have hcW : ∀ i v, (encR x.rates[k]!)[i]? = some v → wr.cell? ⟨bR, off + k * 4 + i, none⟩ = some v := fun i v hv =>
        (World.cell?_of_block (a := ⟨bR, off + k * 4 + i, none⟩) (hsm bR (by omega))).trans (cell_below HW0.out.1 (hcR k hkl i v hv))
      have hmem : x.rates[k]! ∈ x.rates := by rw [getElem!_pos x.rates k hkl]; exact List.getElem_mem _
      have hpr := HXP.out.1 _ hmem
      have hpk := (Tf.okRate_iff _).1 (((Tf.okT_iff x).1 hT.ok).2.2 _ hmem)
      obtain ⟨rk, hrk⟩ : ∃ r, x.rates[k]! = r := ⟨_, rfl⟩
      rw [hrk] at hcW hpr hpk
      obtain ⟨d, f, t, p⟩ := rk
      simp only at hpr hpk
      have e0 : wr.cell? ⟨bR, off + k * 4, none⟩ = some (.int .i64 d) := hcW 0 _ rfl
      have e1 : wr.cell? ⟨bR, off + k * 4 + 1, none⟩ = some (.int .i64 f) := hcW 1 _ rfl
      have e2 : wr.cell? ⟨bR, off + k * 4 + 2, none⟩ = some (.int .i64 t) := hcW 2 _ rfl
      have e3 : wr.cell? ⟨bR, off + k * 4 + 3, none⟩ = some (.int .i64 p) := hcW 3 _ rfl
      have hp0 : 0 ≤ p ∧ p < 1000 := ⟨by omega, hpr⟩
      have hmp : 0 ≤ mm * p ∧ mm * p ≤ 1000000 := by
        refine ⟨Int.mul_nonneg hm1 hp0.1, ?_⟩
        have := Int.mul_le_mul (by omega : mm ≤ 1000) (by omega : p ≤ 1000) hp0.1 (by omega)
        omega
      have q1 : IntKind.i64.wrap (mm * p) = mm * p := IntWalk.i64_in _ (by omega)
      have hkz : (k : Int) < (x.rates.length : Int) := by omega
      have HR := Lib.hid (And.intro hb3 (And.intro hb4 (And.intro hr1 (And.intro hr2 (And.intro hll (And.intro hlow (And.intro hsep hrk)))))))
      have HI := Lib.hid (And.intro I.out.size (And.intro I.out.below I.out.same))
      have HCW := Lib.hid (And.intro hsm hcW)
      clear hb3 hb4 hr1 hr2 hll hlow hsep hrk hcR hmem hpr hpk hsm hcW
      go_upto_region 14 with (fail)
      obtain ⟨W5, hW5⟩ : ∃ W5, wr.alloc (.cells #[.int .i64 d, .int .i64 f, .int .i64 t, .int .i64 (mm * p)] 68) = W5 := ⟨_, rfl⟩
      have x5 : W5.heap[wr.heap.size]? = some (.cells #[.int .i64 d, .int .i64 f, .int .i64 t, .int .i64 (mm * p)] 68 (0, 0)) := by rw [← hW5]; exact heap_at' _ _ rfl
      have y5 : W5.heap[B2 + 1]? = some (.cells #[v1, .int .i64 (mm * x.base)] 26 (0, 0)) := by rw [← hW5, heap_past' _ _ (by have := HI.out.1; omega)]; exact HR.out.1
      obtain ⟨v50, v51, v52, v53, -⟩ := row_cells x5
      have v54 : W5.cell? ⟨B2 + 1, 0, none⟩ = some v1 := by simp [World.cell?, y5]
      have hown5 : W5.ownsRow (B2 + 3) 68 4 v1 k (flatR ((x.rates.take k).map (Tf.timesR mm))) := by rw [← hW5]; exact HR.out.2.2.1.alloc _
      have hs5 : B2 + 3 ≤ W5.heap.size := by have := HI.out.1; rw [← hW5]; simp; omega
      rw [hW5]
      have HW5 := Lib.hid hW5
      have HF := Lib.hid (fun (v1' : Value) (w1 : World) (tmp : Obj) hown' hgrow hat => pr_first (w := w) (W0 := W0) (wr := wr) (w1 := w1) (H := B2 + 3) (B3 := B2 + 1) (B4 := B2 + 1 + 1) (k := k) (x := x) (mm := mm) (d := d) (f := f) (t := t) (p := p) (v1 := v1) (v2 := v2) (v1' := v1') (lo := lo) (tmp := tmp) HWB.out (by omega) (by omega) hkl HR.out.2.2.2.2.2.2.2 HI.out.1 HI.out.2.1 HI.out.2.2 HR.out.1 HR.out.2.1 HR.out.2.2.1 HR.out.2.2.2.1 HR.out.2.2.2.2.2.2.1 (W5 := W5) hW5.symm hown' hgrow hat)
      clear hW5 x5 y5 e0 e1 e2 e3 q1 c0
      go_upto_region 15 with (at_builtin; (refine wpList_append_own_at _ rfl _ _ 24 rfl (B2 + 3) 68 i0 (.agg #[.int .i64 0, .int .i64 0, .int .i64 0, .int .i64 0]) 4 32 Tryz.underlying24 hi hz0 hz1' hz2' rfl (by decide) _ _ _ rfl (hown5.alloc _) ⟨W5.heap.size, 0, none⟩ 1 1 [.int .i64 d, .int .i64 f, .int .i64 t, .int .i64 (mm * p)] rfl rfl ?c1 ?c2 ?c3 ?c4 ?c5 ?_); rotate_left 5; intro v' w1 hown' hgrow _ hat; obtain ⟨g', cap', rfl⟩ := ownsRow_succ hown'; have K1 := HF.out _ w1 _ hown' hgrow hat; have c51 : w1.cell? ⟨B2 + 1, 0, none⟩ = some v1 := (by simp [World.cell?, K1.1]); have f51 : w1.frozen? ⟨B2 + 1, 0, none⟩ = false := (by simp [World.frozen?, K1.1]); have HN := Lib.hid K1.2; clear K1)
      case c1 => exact cell_four_new W5 _ _ _ _ _
      case c2 => intro u hu; simp at hu; rcases hu with rfl | rfl | rfl | rfl <;> rfl
      case c3 => unfold maxLen; omega
      case c4 => omega
      case c5 => simp; omega
      obtain ⟨W6, hW6⟩ : ∃ W6, w1.setCell ⟨B2 + 1, 0, none⟩ (.slice (some ⟨g', 0, none⟩) (k + 1) cap') = W6 := ⟨_, rfl⟩
      rw [hW6] at HN ⊢
      obtain ⟨v1', hv1'⟩ : ∃ v, Value.slice (some ⟨g', 0, none⟩) (k + 1) cap' = v := ⟨_, rfl⟩
      rw [hv1'] at HN
      have s6 : ∀ j, j < B2 + 1 → W6.heap[j]? = wr.heap[j]? := fun j hj => (HN.out.same j (by omega) (by omega) (by omega)).trans (HI.out.2.2 j (by omega) (by omega) (by omega)).symm
      have c0 : W6.cell? ⟨w2.heap.size, 0, none⟩ = some (.slice (some ⟨bR, off, none⟩) x.rates.length c') := by
        refine (World.cell?_of_block (a := ⟨w2.heap.size, 0, none⟩) ((s6 w2.heap.size (by omega)).trans (HCW.out.1 _ (by omega)))).trans HW0.out.2.2.2.2.2.x0
      have e3 : W6.cell? ⟨bR, off + k * 4 + 3, none⟩ = some (.int .i64 p) := (World.cell?_of_block (a := ⟨bR, off + k * 4 + 3, none⟩) (s6 bR (by omega))).trans (HCW.out.2 3 _ rfl)
      obtain ⟨x60, x61, x62, x63, f6⟩ := row_cells HN.out.row
      have f63 := f6 3
      have HN7 := Lib.hid (HN.out.set (by have := HWB.out; omega) (by omega) (by omega) p)
      have HV := Lib.hid hv1'
      clear s6 hv1' hW6 c51 f51 v50 v51 v52 v53 v54 hown5 hown' hgrow hat f6 HF
      go_upto_if 82 with (fail)
      obtain ⟨W7, hW7⟩ : ∃ W7, W6.setCell ⟨wr.heap.size, 3, none⟩ (.int .i64 p) = W7 := ⟨_, rfl⟩
      rw [hW7] at HN7 ⊢
      clear hW7 c0 e3 x60 x61 x62 x63 f63
      go_cut [] from 49 to 100 (fun wx => PrQ w W0 wx (B2 + 3) (B2 + 1) (B2 + 1 + 1) wr.heap.size k x mm v1' v2 lo d f t p)
      case first =>
        by_cases hkm : k < m
        · have hkmz : (k : Int) < (m : Int) := by omega
          obtain ⟨b2, off2, rfl, hb2, hcell⟩ : ∃ b off, A2 = some ⟨b, off, none⟩ ∧ b < w.heap.size ∧ ∀ i, i < m → w.cell? ⟨b, off + i, none⟩ = some (.int .i64 (u i)) ∧ -9223372036854775808 ≤ u i ∧ u i ≤ 9223372036854775807 := by
            rcases HU.out with h | h
            · omega
            · exact h
          obtain ⟨g0, g1, g2⟩ := hcell k hkm
          have g3 := cell_below HN7.out.below g0
          obtain ⟨uk, huk⟩ : ∃ v, u k = v := ⟨_, rfl⟩
          rw [huk] at g1 g2 g3
          have HPK := Lib.hid (fun W => lpick_eq uk (p + 1) ⟨g1, g2⟩ (by omega) (by omega) W)
          have r0 := Tf.pk_range uk (n := p + 1) (by omega)
          obtain ⟨r, hr⟩ : ∃ r, Tf.pk uk (p + 1) = r := ⟨_, rfl⟩
          rw [hr] at HPK r0
          have z1 : IntKind.i64.wrap (p + 1) = p + 1 := IntWalk.i64_in _ (by omega)
          have z2 : IntKind.i64.wrap (p - r) = p - r := IntWalk.i64_in _ (by omega)
          have hrow := HN7.out.row
          clear hcell g0 huk hr
          go_wp2_with fail
          refine wp_region_still_tail 12 (by kernel_rfl) (by kernel_rfl) ?_
          simp only [List.take_succ_cons, List.take_zero, List.drop_succ_cons, List.drop_zero]
          change wpStill _ _ W7.drew (fun a' => wpList _ _ _ _ a' W7.drew) _ _
          obtain ⟨W8, hW8⟩ : ∃ W, W7.drew = W := ⟨_, rfl⟩
          replace g3 : W7.drew.cell? _ = _ := g3
          have hM8 : PrM w W0 W7.drew (B2 + 3) (B2 + 1) (B2 + 1 + 1) wr.heap.size k x mm v1' v2 lo d f t p := ⟨HN7.out.hR, HN7.out.below.drew, HN7.out.same, HN7.out.b3, HN7.out.b4, HN7.out.r1, HN7.out.r2, HN7.out.sep, HN7.out.n1, HN7.out.n2, HN7.out.row⟩
          rw [hW8] at g3 hM8 ⊢
          clear hrow hW8
          obtain ⟨x70, x71, x72, x73, f7⟩ := row_cells hM8.row
          have f73 := f7 3
          clear f7
          repeat (first | still_step | (refine wpStill_step (fun K hK => ?_); go_simp; (with_reducible refine ⟨_, HPK.out _, hK _ ?_⟩); clear hK K))
          refine wpStill_nil ?_
          go_wp2_with fail
          go_meet
          exact ⟨p - r, by omega, by omega, hM8.set (by have := HWB.out; omega) (by omega) (by omega) (p - r)⟩
        · have hkmz : ¬ (k : Int) < (m : Int) := by omega
          go_wp2_with fail
          go_meet
          exact ⟨p, hp0.1, Int.le_refl _, HN7.out⟩
      case rest =>
        obtain ⟨q, hq0, hqp, hM⟩ := hcut
        obtain ⟨x80, x81, x82, x83, -⟩ := row_cells hM.row
        have hr2 := hM.r2
        have hb4 := hM.b4
        have v80 : wc.cell? ⟨B2 + 1 + 1, 0, none⟩ = some v2 := by simp [World.cell?, hb4]
        have hs8 : B2 + 3 ≤ wc.heap.size := by have h1 := hM.hR; have h2 := (Array.getElem?_eq_some_iff.1 hM.row).1; omega
        have HG := Lib.hid (fun (v2' : Value) (w1 : World) (tmp : Obj) hown' hgrow hat => pr_second (v2' := v2') (w1 := w1) (tmp := tmp) HWB.out (by omega) (by omega) hkl HR.out.2.2.2.2.2.2.2 HR.out.2.2.2.2.1 HR.out.2.2.2.2.2.1 ⟨hq0, hqp⟩ hM hown' hgrow hat)
        clear hM hb4
        go_wp2_with (at_builtin; (refine wpList_append_own_at _ rfl _ _ 24 rfl (B2 + 3) 68 i0 (.agg #[.int .i64 0, .int .i64 0, .int .i64 0, .int .i64 0]) 4 32 Tryz.underlying24 hi hz0 hz1' hz2' rfl (by decide) _ _ _ rfl (hr2.alloc _) ⟨wc.heap.size, 0, none⟩ 1 1 [.int .i64 d, .int .i64 f, .int .i64 t, .int .i64 q] rfl rfl ?d1 ?d2 ?d3 ?d4 ?d5 ?_); rotate_left 5; intro v' w1 hown' hgrow _ hat; obtain ⟨g', cap', rfl⟩ := ownsRow_succ hown'; have K1 := HG.out _ w1 _ hown' hgrow hat; have c51 : w1.cell? ⟨B2 + 1 + 1, 0, none⟩ = some v2 := (by simp [World.cell?, K1.1]); have f51 : w1.frozen? ⟨B2 + 1 + 1, 0, none⟩ = false := (by simp [World.frozen?, K1.1]); have HN := Lib.hid K1.2; clear K1)
        case d1 => exact cell_four_new wc _ _ _ _ _
        case d2 => intro u hu; simp at hu; rcases hu with rfl | rfl | rfl | rfl <;> rfl
        case d3 => unfold maxLen; omega
        case d4 => omega
        case d5 => simp; omega
        go_roundw
        case rel => exact ⟨k + 1, by go_num, by omega, HN.out⟩
        case measure => simp [intOf] <;> omega
    · obtain rfl : k = x.rates.length := by omega
      obtain ⟨v1, v2, lo, hb3, hb4, hr1, hr2, hll, hlow, -⟩ := I.out.rows
      rw [List.take_length] at hr1 hlow
      have hxt : Tf.okT (Tf.times mm x) = true := Tf.times_ok hT.ok hm1 (by omega) (by omega) (fun r hr => by have := HXP.out.1 r hr; omega)
      have hxl' : Tf.okT ⟨lo, x.base⟩ = true := Tf.low_ok hlow hT.ok
      obtain ⟨A3, c3, hv3, hR3⟩ := ratesAt_own (l := (Tf.times mm x).rates) (by simpa [Tf.times] using hr1)
      obtain ⟨A4, c4, hv4, hR4⟩ := ratesAt_own (l := lo) (by rw [hll]; exact hr2)
      rw [show (Tf.times mm x).rates.length = x.rates.length by simp [Tf.times]] at hv3
      rw [hll] at hv4
      subst hv3 hv4
      have T3 : TarAt wr (Tf.times mm x) A3 := ⟨hxt, hR3⟩
      have T4 : TarAt wr ⟨lo, x.base⟩ A4 := ⟨hxl', hR4⟩
      have hbw := I.out.below
      have hspell : wr.heap[B2]? = some (.cells #[.int .i64 a, .int .i64 b] 28 (0, 0)) := (hsm B2 (by omega)).trans HW0.out.2.1
      have T1 : TarAt wr x A' := by
        refine ⟨hT.ok, ?_⟩
        rcases hT.rates with h | ⟨bR, off, h1, h2, h3⟩
        · exact .inl h
        · refine .inr ⟨bR, off, h1, by have := I.out.size; omega, fun j hj i v hv => ?_⟩
          exact (World.cell?_of_block (a := ⟨bR, off + j * 4 + i, none⟩) (hsm bR (by omega))).trans (cell_below HW0.out.1 (h3 j hj i v hv))
      have c1 : wr.cell? ⟨w2.heap.size, 1, none⟩ = some (.int .i64 x.base) := (World.cell?_of_block (a := ⟨w2.heap.size, 1, none⟩) (hsm _ (by show w2.heap.size < _; omega))).trans HW0.out.2.2.2.2.2.x1
      have s0 : wr.cell? ⟨B2, 0, none⟩ = some (.int .i64 a) := by simp [World.cell?, hspell]
      have s1 : wr.cell? ⟨B2, 1, none⟩ = some (.int .i64 b) := by simp [World.cell?, hspell]
      have t0 : wr.cell? ⟨B2 + 1, 0, none⟩ = some (.slice A3 x.rates.length c3) := by simp [World.cell?, hb3]
      have t1 : wr.cell? ⟨B2 + 1, 1, none⟩ = some (.int .i64 (mm * x.base)) := by simp [World.cell?, hb3]
      have l0 : wr.cell? ⟨B2 + 1 + 1, 0, none⟩ = some (.slice A4 x.rates.length c4) := by simp [World.cell?, hb4]
      have l1 : wr.cell? ⟨B2 + 1 + 1, 1, none⟩ = some (.int .i64 x.base) := by simp [World.cell?, hb4]
      have HL := Lib.hid (And.intro hll hlow)
      clear hsm hb3 hb4 hr1 hr2 hll hlow hR3 hR4 hspell
      have hkz : ¬ (x.rates.length : Int) < (x.rates.length : Int) := by omega
      go_wp2_with fail
      refine (sum_ok T1 c' z a b ⟨hz1, hz2⟩ ha0 hab (by omega)).mono ?_
      rintro e w5 ⟨rfl, hb5⟩
      have s2 := cell_below hb5 s0
      have s3 := cell_below hb5 s1
      have t2 := cell_below hb5 t0
      have t3 := cell_below hb5 t1
      have l2 := cell_below hb5 l0
      have l3 := cell_below hb5 l1
      go_wp2_with fail
      have h24 := sum_ok (T3.below hb5) c3 z a b ⟨hz1, hz2⟩ ha0 hab (by omega)
      rw [show (Tf.times mm x).rates.length = x.rates.length by simp [Tf.times], show (Tf.times mm x).base = mm * x.base from rfl, Tf.S_times] at h24
      refine h24.mono ?_
      clear h24
      rintro e w6 ⟨rfl, hb6⟩
      have s4 := cell_below hb6 s2
      have s5 := cell_below hb6 s3
      have l4 := cell_below hb6 l2
      have l5 := cell_below hb6 l3
      go_wp2_with fail
      have h25 := sum_ok ((T4.below hb5).below hb6) c4 z a b ⟨hz1, hz2⟩ ha0 hab (by omega)
      rw [show ((⟨lo, x.base⟩ : Tf.Tariff).rates.length) = x.rates.length from HL.out.1] at h25
      refine h25.mono ?_
      clear h25
      rintro e w7 ⟨rfl, hb7⟩
      have hfin : Below w.heap.size w w7 := bt (bt (bt hbw hb5) hb6) hb7
      have hle := Tf.S_low HL.out.2 x.base z a b
      have hsb := Tf.sum_bounds hT.ok z hab
      have hxeta : (⟨x.rates, x.base⟩ : Tf.Tariff) = x := rfl
      rw [hxeta] at hle
      obtain ⟨s, hs⟩ : ∃ v, Tf.S (Tf.price x z) a b = v := ⟨_, rfl⟩
      obtain ⟨l, hl⟩ : ∃ v, Tf.S (Tf.price ⟨lo, x.base⟩ z) a b = v := ⟨_, rfl⟩
      rw [hs] at hle hsb ⊢
      rw [hl] at hle ⊢
      have hms : 0 ≤ mm * s ∧ mm * s ≤ 400000000000000 := by
        refine ⟨Int.mul_nonneg hm1 hsb.1, ?_⟩
        have := Int.mul_le_mul (by omega : mm ≤ 1000) (by omega : s ≤ 400000000000) hsb.1 (by omega)
        omega
      have q1 : IntKind.i64.wrap (mm * s) = mm * s := IntWalk.i64_in _ (by omega)
      have HFIN := Lib.hid hfin
      clear hs hl hfin hxeta hsb
      go_wp2
      go_ret
      exact ⟨rfl, HFIN.out⟩
end Go.Proofs.YtbenflnpnohcjaaGreatDoor

/- The contract of tariff.Cheapest. -/
import Derived.Test.YtbenflnpnohcjaaGreatDoorT9
import Derived.Sort.CutIn
import Derived.Deep.RegionHeld3
import Derived.IntWalk
import Derived.Laws.EntriesVeiled
namespace Go.Proofs.YtbenflnpnohcjaaGreatDoor
open Go.RowKit Go.Shelf

attribute [local go_sem] Oper.semAt_some

def cheapB (x : Tf.Tariff) (z a b n : Int) : Bool := goodB x z a b && (decide (b - a ≤ 100000) && inB n 1 (b - a))

def cheapR (x : Tf.Tariff) (z a b n : Int) : Bool → Ending → Prop
  | true, e => ∃ t, Tf.First (Tf.price x z) n a (b - n) t ∧ e = .returned (.tuple #[.int .i64 t, .int .i64 (Tf.win (Tf.price x z) n t), .int .i64 0])
  | false, e => e = .returned (.tuple #[.int .i64 0, .int .i64 0, .int .i64 370])

theorem boxed_new' (W : World) (t : TypeId) (v : Value) {B : Nat} (h : B = W.heap.size) : Boxed (W.alloc (.cells #[v] t)) B t v := h ▸ Boxed.new W t v
theorem heap_past (W : World) (o : Obj) {k : Nat} (h : k < W.heap.size) : (W.alloc o).heap[k]? = W.heap[k]? := ((Below.refl W.heap.size W).alloc (Nat.le_refl _) o).block k h
theorem heap_at (W : World) (o : Obj) {k : Nat} (h : k = W.heap.size) : (W.alloc o).heap[k]? = some o := h ▸ World.alloc_heap_new W o
theorem boxed_drew {W : World} {B : Nat} {t : TypeId} {v : Value} (h : Boxed W B t v) : Boxed W.drew B t v := h
theorem boxed_below {W W' : World} {N B : Nat} {t : TypeId} {v : Value} (h : Boxed W B t v) (hb : Below N W W') (hB : B < N) : Boxed W' B t v := (hb.block B hB).trans h

set_option maxRecDepth 100000 in
set_option maxHeartbeats 1000000 in
theorem cheapest_any (A : Option Addr) (c : Nat) (x : Tf.Tariff) (hl : x.rates.length ≤ 9223372036854775807) (z a b n : Int) (w : World) (hR : RatesAt w A x.rates) :
    Calls Tryz.prog 37 #[.agg #[.slice A x.rates.length c, .int .i64 x.base], .int .i64 z, .agg #[.int .i64 a, .int .i64 b], .int .i64 n] w fun e w' =>
      cheapR x z a b n (cheapB x z a b n) e ∧ Below w.heap.size w w' := by
  have hb1 : Below w.heap.size w ((((w.alloc (.cells #[.slice A x.rates.length c, .int .i64 x.base] 26)).alloc (.cells #[.int .i64 z] 3)).alloc (.cells #[.int .i64 a, .int .i64 b] 28)).alloc (.cells #[.int .i64 n] 3)) := ((((Below.refl _ w).alloc (Nat.le_refl _) _).alloc (by simp) _).alloc (by simp; omega) _).alloc (by simp; omega) _
  have hg := isGood_any A c x hl z a b _ (hR.below hb1)
  have HR1 := Lib.hid (hR.below hb1)
  have HR0 := Lib.hid hR
  cases h1 : goodB x z a b with
  | false =>
    rw [h1] at hg
    rw [show cheapB x z a b n = false by simp [cheapB, h1]]
    clear hR HR1 HR0
    go_enter Tryz.func37, Tryz.ntmps37
    go_wp2_with (go_at_call 56; refine hg.mono ?_; rintro e wv ⟨rfl, hb2⟩; obtain ⟨hc1, hf1⟩ := bcell hb2; have hzz := hb2.size; simp only [World.size_alloc] at hzz)
    refine bodyPost_ret (results_tmp3 rfl _ _ _) rfl ?_
    refine ⟨?_, hb1.trans (hb2.mono (by simp; omega))⟩; simp [cheapR]
  | true =>
    rw [h1] at hg
    have h2 := h1
    simp only [goodB, spellB, zoneB, Bool.and_eq_true, decide_eq_true_eq, inB_iff] at h2
    obtain ⟨hx, ⟨hz1, hz2⟩, ha, hab, hb⟩ := h2
    by_cases hw : b - a ≤ 100000
    rotate_left
    · rw [show cheapB x z a b n = false by simp [cheapB]; omega]
      clear hR HR1 HR0
      go_enter Tryz.func37, Tryz.ntmps37
      go_wp2_with (go_at_call 56; refine hg.mono ?_; rintro e wv ⟨rfl, hb2⟩; obtain ⟨hc1, hf1⟩ := bcell hb2; have hzz := hb2.size; simp only [World.size_alloc] at hzz)
      refine bodyPost_ret (results_tmp3 rfl _ _ _) rfl ?_
      refine ⟨?_, hb1.trans (hb2.mono (by simp; omega))⟩; simp [cheapR]
    cases h3 : inB n 1 (b - a) with
    | false =>
      rw [show cheapB x z a b n = false by simp [cheapB, h3]]
      clear hR HR1 HR0
      go_enter Tryz.func37, Tryz.ntmps37
      go_wp2_with (first | (go_at_call 56; refine hg.mono ?_; rintro e wv ⟨rfl, hb2⟩; obtain ⟨hc1, hf1⟩ := bcell hb2; have hzz := hb2.size; simp only [World.size_alloc] at hzz) | (go_at_call 48; refine (isIn_any _ _ _ _).mono ?_; rintro e w' ⟨rfl, rfl⟩))
      refine bodyPost_ret (results_tmp3 rfl _ _ _) rfl ?_
      refine ⟨?_, hb1.trans (hb2.mono (by simp; omega))⟩; simp [cheapR]
    | true =>
      rw [show cheapB x z a b n = true by simp [cheapB, h1, h3, hw]]
      have h4 := inB_iff.1 h3
      have hsp := fun W => spells_any A x.rates.length c x.base z a b W
      have HSP := Lib.hid hsp
      clear hsp
      have hsum := fun W hR => sum_any x hx A c z a (a + n) (by omega) (by omega) ha (by omega) (by omega) W hR
      rw [show Tf.S (Tf.price x z) a (a + n) = Tf.win (Tf.price x z) n a from rfl] at hsum
      have HSUM := Lib.hid hsum
      clear hsum
      have KC := Lib.hid (show ((((w.alloc (.cells #[.slice A x.rates.length c, .int .i64 x.base] 26)).alloc (.cells #[.int .i64 z] 3)).alloc (.cells #[.int .i64 a, .int .i64 b] 28)).alloc (.cells #[.int .i64 n] 3)).cell? ⟨w.heap.size, 0, none⟩ = some (.slice A x.rates.length c) ∧ ((((w.alloc (.cells #[.slice A x.rates.length c, .int .i64 x.base] 26)).alloc (.cells #[.int .i64 z] 3)).alloc (.cells #[.int .i64 a, .int .i64 b] 28)).alloc (.cells #[.int .i64 n] 3)).cell? ⟨w.heap.size, 1, none⟩ = some (.int .i64 x.base) ∧ ((((w.alloc (.cells #[.slice A x.rates.length c, .int .i64 x.base] 26)).alloc (.cells #[.int .i64 z] 3)).alloc (.cells #[.int .i64 a, .int .i64 b] 28)).alloc (.cells #[.int .i64 n] 3)).cell? ⟨w.heap.size + 1, 0, none⟩ = some (.int .i64 z) ∧ ((((w.alloc (.cells #[.slice A x.rates.length c, .int .i64 x.base] 26)).alloc (.cells #[.int .i64 z] 3)).alloc (.cells #[.int .i64 a, .int .i64 b] 28)).alloc (.cells #[.int .i64 n] 3)).cell? ⟨w.heap.size + 1 + 1, 0, none⟩ = some (.int .i64 a) ∧ ((((w.alloc (.cells #[.slice A x.rates.length c, .int .i64 x.base] 26)).alloc (.cells #[.int .i64 z] 3)).alloc (.cells #[.int .i64 a, .int .i64 b] 28)).alloc (.cells #[.int .i64 n] 3)).cell? ⟨w.heap.size + 1 + 1, 1, none⟩ = some (.int .i64 b) ∧ ((((w.alloc (.cells #[.slice A x.rates.length c, .int .i64 x.base] 26)).alloc (.cells #[.int .i64 z] 3)).alloc (.cells #[.int .i64 a, .int .i64 b] 28)).alloc (.cells #[.int .i64 n] 3)).cell? ⟨w.heap.size + 1 + 1 + 1, 0, none⟩ = some (.int .i64 n) from ⟨by simp [go_sem], by simp [go_sem], by simp [go_sem], by simp [go_sem], by simp [go_sem], by simp [go_sem]⟩)
      have KH := Lib.hid (show ((((w.alloc (.cells #[.slice A x.rates.length c, .int .i64 x.base] 26)).alloc (.cells #[.int .i64 z] 3)).alloc (.cells #[.int .i64 a, .int .i64 b] 28)).alloc (.cells #[.int .i64 n] 3)).heap[w.heap.size]? = some (.cells #[.slice A x.rates.length c, .int .i64 x.base] 26 (0, 0)) ∧ ((((w.alloc (.cells #[.slice A x.rates.length c, .int .i64 x.base] 26)).alloc (.cells #[.int .i64 z] 3)).alloc (.cells #[.int .i64 a, .int .i64 b] 28)).alloc (.cells #[.int .i64 n] 3)).heap[w.heap.size + 1]? = some (.cells #[.int .i64 z] 3 (0, 0)) ∧ ((((w.alloc (.cells #[.slice A x.rates.length c, .int .i64 x.base] 26)).alloc (.cells #[.int .i64 z] 3)).alloc (.cells #[.int .i64 a, .int .i64 b] 28)).alloc (.cells #[.int .i64 n] 3)).heap[w.heap.size + 1 + 1]? = some (.cells #[.int .i64 a, .int .i64 b] 28 (0, 0)) ∧ ((((w.alloc (.cells #[.slice A x.rates.length c, .int .i64 x.base] 26)).alloc (.cells #[.int .i64 z] 3)).alloc (.cells #[.int .i64 a, .int .i64 b] 28)).alloc (.cells #[.int .i64 n] 3)).heap[w.heap.size + 1 + 1 + 1]? = some (.cells #[.int .i64 n] 3 (0, 0)) from by
        refine ⟨?_, ?_, ?_, ?_⟩
        · rw [heap_past _ _ (by simp; omega), heap_past _ _ (by simp; omega), heap_past _ _ (by simp), heap_at _ _ rfl]
        · rw [heap_past _ _ (by simp), heap_past _ _ (by simp), heap_at _ _ (by simp)]
        · rw [heap_past _ _ (by simp), heap_at _ _ (by simp)]
        · rw [heap_at _ _ (by simp)])
      have HTRY := Lib.hid (fun t best => try_two x hx A c z a n (b - n) t best (by omega) (by omega) ha (by omega) (by omega) (w.heap.size + 1 + 1))
      refine wideC' (n := 10) ?_
      refine callsIn_of_wp_marks Tryz.func37 rfl trivial ?_ rfl
      simp only [Tryz.ntmps37, List.size_toArray, List.length_cons, List.length_nil, Nat.reduceAdd, Nat.reduceSub, Array.replicate_succ, Array.replicate_zero, List.push_toArray, List.append_toArray, List.nil_append, List.cons_append]
      gi_wp2_with (first | (refine ⟨trivial, ?_⟩; gi_at_call 56; refine (wideC hg).mono ?_; rintro e wv ⟨rfl, hb2⟩; obtain ⟨hc1, hf1⟩ := bcell hb2; have hzz := hb2.size; simp only [World.size_alloc] at hzz; have HR2 := Lib.hid (HR1.out.below hb2)) | (refine ⟨trivial, ?_⟩; gi_at_call 48; refine (wideC (isIn_any _ _ _ _)).mono ?_; rintro e w' ⟨rfl, rfl⟩))
      obtain ⟨V, hV⟩ : ∃ V, wv.alloc (.cells #[.int .i64 (b - n)] 3) = V := ⟨_, rfl⟩
      have bV : Below wv.heap.size wv V := by rw [← hV]; exact (Below.refl _ wv).alloc (Nat.le_refl _) _
      have sV : V.heap.size = wv.heap.size + 1 := by rw [← hV]; simp
      have bL : Boxed V wv.heap.size 3 (.int .i64 (b - n)) := by rw [← hV]; exact Boxed.new wv 3 _
      have g0 : V.cell? ⟨w.heap.size, 0, none⟩ = some (.slice A x.rates.length c) := cell_below bV (cell_below hb2 KC.out.1)
      have g1 : V.cell? ⟨w.heap.size, 1, none⟩ = some (.int .i64 x.base) := cell_below bV (cell_below hb2 KC.out.2.1)
      have gz : V.cell? ⟨w.heap.size + 1, 0, none⟩ = some (.int .i64 z) := cell_below bV (cell_below hb2 KC.out.2.2.1)
      have ga : V.cell? ⟨w.heap.size + 1 + 1, 0, none⟩ = some (.int .i64 a) := cell_below bV (cell_below hb2 KC.out.2.2.2.1)
      have gb : V.cell? ⟨w.heap.size + 1 + 1, 1, none⟩ = some (.int .i64 b) := cell_below bV (cell_below hb2 KC.out.2.2.2.2.1)
      have gn : V.cell? ⟨w.heap.size + 1 + 1 + 1, 0, none⟩ = some (.int .i64 n) := cell_below bV (cell_below hb2 KC.out.2.2.2.2.2)
      have HR3 := Lib.hid (HR2.out.below bV)
      have hBV : Below w.heap.size w V := (hb1.trans (hb2.mono (by simp; omega))).trans (bV.mono (by omega))
      rw [hV]
      have HSV := Lib.hid sV
      clear hV hc1 hf1 hR sV
      gi_cut [12, 13] from 78 (fun v12 v13 W => ∃ B1 B2, v12 = .pointer (some ⟨B1, 0, none⟩) ∧ v13 = .pointer (some ⟨B2, 0, none⟩) ∧ B1 ≠ B2 ∧ V.heap.size ≤ B1 ∧ V.heap.size ≤ B2 ∧ Boxed W B1 3 (.int .i64 a) ∧ Boxed W B2 3 (.int .i64 (Tf.win (Tf.price x z) n a)) ∧ Below V.heap.size V W)
      case first J1 K1 hJ1 hK1 =>
        have hkeep : ∀ W', Below V.heap.size V W' → W'.cell? ⟨w.heap.size, 0, none⟩ = some (.slice A x.rates.length c) ∧ W'.cell? ⟨w.heap.size, 1, none⟩ = some (.int .i64 x.base) ∧ W'.cell? ⟨w.heap.size + 1, 0, none⟩ = some (.int .i64 z) ∧ W'.cell? ⟨w.heap.size + 1 + 1, 0, none⟩ = some (.int .i64 a) ∧ W'.cell? ⟨w.heap.size + 1 + 1 + 1, 0, none⟩ = some (.int .i64 n) ∧ Below V.heap.size V W' := fun W' h => ⟨cell_below h g0, cell_below h g1, cell_below h gz, cell_below h ga, cell_below h gn, h⟩
        have hk1 : ∀ W o, Below V.heap.size V W → Below V.heap.size V (W.alloc o) := fun W o h => h.alloc h.size o
        have hk2 : ∀ W W', Below V.heap.size V W → Below W.heap.size W W' → Below V.heap.size V W' := fun W W' h h2 => h.trans (h2.mono h.size)
        have hk3 : ∀ W b v, V.heap.size ≤ b → Below V.heap.size V W → Below V.heap.size V (W.setCell ⟨b, 0, none⟩ v) := fun W b v hb h => h.setCell (p := ⟨b, 0, none⟩) hb v
        refine wpIn_wide.2 ?_
        have hwr : IntKind.i64.wrap (a + n) = a + n := IntWalk.i64_in _ (by omega)
        clear h1 hx HSP hg HR1 HR2 KC bL bV hBV gb
        have HK := Lib.hid hkeep
        have HK1 := Lib.hid hk1
        have HK2 := Lib.hid hk2
        have HK3 := Lib.hid hk3
        have HK4 := Lib.hid (show ∀ W, Below V.heap.size V W → Below V.heap.size V W.drew from fun W h => h.drew)
        clear hkeep hk1 hk2 hk3
        go_region_held3 (fun W' => W'.cell? ⟨w.heap.size, 0, none⟩ = some (.slice A x.rates.length c) ∧ W'.cell? ⟨w.heap.size, 1, none⟩ = some (.int .i64 x.base) ∧ W'.cell? ⟨w.heap.size + 1, 0, none⟩ = some (.int .i64 z) ∧ W'.cell? ⟨w.heap.size + 1 + 1, 0, none⟩ = some (.int .i64 a) ∧ W'.cell? ⟨w.heap.size + 1 + 1 + 1, 0, none⟩ = some (.int .i64 n) ∧ Below V.heap.size V W')
          (with_reducible refine HK.out _ ?_; repeat (first | with_reducible exact Below.refl _ V | (with_reducible refine HK4.out _ ?_) | (with_reducible refine HK1.out _ _ ?_) | (with_reducible refine HK3.out _ _ _ (by first | omega | (simp; omega) | simp) ?_) | (with_reducible refine HK2.out _ _ ?_ hb3)))
          (first | (go_at_call 57; refine (HSUM.out _ (HR3.out.below ?_)).mono ?_; (repeat (first | with_reducible exact Below.refl _ V | (with_reducible refine HK4.out _ ?_) | (with_reducible refine HK1.out _ _ ?_))); rintro e w2 ⟨rfl, hb3⟩; have hz3 := hb3.size; simp only [World.size_alloc, World.size_drew] at hz3; obtain ⟨qc, qf⟩ := bcell hb3; have qqc0 := qc (V.heap.size) 0; simp [go_sem] at qqc0; have qqc1 := qc (V.heap.size + 1) 0; simp [go_sem] at qqc1; have qqf0 := qf (V.heap.size) 0; simp [go_sem] at qqf0; have qqf1 := qf (V.heap.size + 1) 0; simp [go_sem] at qqf1; (try (refine (fun (hn0 : V.heap.size < w2.heap.size ∧ V.heap.size ≠ w2.heap.size ∧ V.heap.size ≠ w2.heap.size + 1) => ?_) ?_; rotate_left; omega; obtain ⟨hna0, hnb0, hnc0⟩ := hn0)); (try (refine (fun (hn1 : V.heap.size + 1 < w2.heap.size ∧ V.heap.size + 1 ≠ w2.heap.size ∧ V.heap.size + 1 ≠ w2.heap.size + 1) => ?_) ?_; rotate_left; omega; obtain ⟨hna1, hnb1, hnc1⟩ := hn1)); clear qc qf))
        all_goals
          refine hK1 _ _ (Met.intro (hJ1 _ _ ?_))
          (repeat apply Exists.intro)
          refine ⟨?_, rfl⟩
          go_split_ands
          refine ⟨_, _, rfl, rfl, ?_, ?_, ?_, ?_, ?_, ?_⟩
          · omega
          · omega
          · omega
          · repeat (first
                | (refine boxed_new' _ _ _ ?_; simp; done)
                | exact (boxed_new' V _ _ rfl)
                | (refine Boxed.alloc ?_ _)
                | (refine Boxed.set (v := .int .i64 0) _ ?_)
                | (refine Boxed.other ?_ (by omega) _)
                | (refine boxed_below ?_ hb3 (by first | (simp; done) | (simp; omega)))
                | (refine boxed_drew ?_))
          · repeat (first
                | (refine boxed_new' _ _ _ ?_; simp; done)
                | exact (boxed_new' V _ _ rfl)
                | (refine Boxed.alloc ?_ _)
                | (refine Boxed.set (v := .int .i64 0) _ ?_)
                | (refine Boxed.other ?_ (by omega) _)
                | (refine boxed_below ?_ hb3 (by first | (simp; done) | (simp; omega)))
                | (refine boxed_drew ?_))
          · with_reducible assumption
      case rest =>
        obtain ⟨B1, B2, rfl, rfl, hne, hB1, hB2, bx1, bx2, bW⟩ := hcut
        have c1 := bx1.cell
        have c2 := bx2.cell
        have d0 := cell_below bW g0
        have d1 := cell_below bW g1
        have dz := cell_below bW gz
        have da := cell_below bW ga
        have db := cell_below bW gb
        have dn := cell_below bW gn
        have n0 : w.heap.size < wc.heap.size := by have := bW.size; have := HSV.out; omega
        have n1 : w.heap.size + 1 < wc.heap.size := by have := bW.size; have := HSV.out; omega
        have n2 : w.heap.size + 1 + 1 < wc.heap.size := by have := bW.size; have := HSV.out; omega
        have n3 : w.heap.size + 1 + 1 + 1 < wc.heap.size := by have := bW.size; have := HSV.out; omega
        have nL : wv.heap.size < wc.heap.size := by have := bW.size; have := HSV.out; omega
        have HB := Lib.hid (And.intro hB1 hB2)
        clear hB1 hB2 g0 g1 gz ga gb gn
        gi_wp2_with (refine ⟨trivial, ?_⟩; gi_at_call 61; refine (wideC (HSP.out _)).mono ?_; rintro e w3 ⟨rfl, rfl⟩)
        obtain ⟨W0, hW0⟩ : ∃ W0, ((((wc.alloc (.cells #[.func (.func 65) #[] #[.pointer (some ⟨w.heap.size + 1 + 1, 0, none⟩), .pointer (some ⟨wv.heap.size, 0, none⟩), .pointer (some ⟨w.heap.size, 0, none⟩), .pointer (some ⟨w.heap.size + 1, 0, none⟩), .pointer (some ⟨w.heap.size + 1 + 1 + 1, 0, none⟩), .pointer (some ⟨B2, 0, none⟩), .pointer (some ⟨B1, 0, none⟩)]] 92)).alloc (.cells #[.slice A x.rates.length c, .int .i64 x.base] 26)).alloc (.cells #[.int .i64 z] 3)).alloc (.cells #[.int .i64 a, .int .i64 b] 28)) = W0 := ⟨_, rfl⟩
        rw [hW0]
        have bW0 : Below wc.heap.size wc W0 := by
          rw [← hW0]
          exact ((((Below.refl _ wc).alloc (Nat.le_refl _) _).alloc (by simp) _).alloc (by simp; omega) _).alloc (by simp; omega) _
        have sW0 : W0.heap.size = wc.heap.size + 4 := by rw [← hW0]; simp
        have hin : SpIn x A c z a b (wc.heap.size + 1) (wc.heap.size + 1 + 2) (wc.heap.size + 1 + 1) W0 := by
          refine ⟨?_, ?_, ?_, ?_, ?_, (HR3.out.below bW).below bW0, ?_, ?_, ?_⟩ <;> rw [← hW0]
          · simp [go_sem]
          · simp [go_sem]
          · simp [go_sem]
          · simp [go_sem]
          · simp [go_sem]
          · exact ((typed_at (wc.alloc (.cells #[.func (.func 65) #[] #[.pointer (some ⟨w.heap.size + 1 + 1, 0, none⟩), .pointer (some ⟨wv.heap.size, 0, none⟩), .pointer (some ⟨w.heap.size, 0, none⟩), .pointer (some ⟨w.heap.size + 1, 0, none⟩), .pointer (some ⟨w.heap.size + 1 + 1 + 1, 0, none⟩), .pointer (some ⟨B2, 0, none⟩), .pointer (some ⟨B1, 0, none⟩)]] 92)) _ 26 (by simp)).alloc _).alloc _
          · exact typed_at (((wc.alloc (.cells #[.func (.func 65) #[] #[.pointer (some ⟨w.heap.size + 1 + 1, 0, none⟩), .pointer (some ⟨wv.heap.size, 0, none⟩), .pointer (some ⟨w.heap.size, 0, none⟩), .pointer (some ⟨w.heap.size + 1, 0, none⟩), .pointer (some ⟨w.heap.size + 1 + 1 + 1, 0, none⟩), .pointer (some ⟨B2, 0, none⟩), .pointer (some ⟨B1, 0, none⟩)]] 92)).alloc (.cells #[.slice A x.rates.length c, .int .i64 x.base] 26)).alloc (.cells #[.int .i64 z] 3)) _ 28 (by simp)
          · exact (typed_at ((wc.alloc (.cells #[.func (.func 65) #[] #[.pointer (some ⟨w.heap.size + 1 + 1, 0, none⟩), .pointer (some ⟨wv.heap.size, 0, none⟩), .pointer (some ⟨w.heap.size, 0, none⟩), .pointer (some ⟨w.heap.size + 1, 0, none⟩), .pointer (some ⟨w.heap.size + 1 + 1 + 1, 0, none⟩), .pointer (some ⟨B2, 0, none⟩), .pointer (some ⟨B1, 0, none⟩)]] 92)).alloc (.cells #[.slice A x.rates.length c, .int .i64 x.base] 26)) _ 3 (by simp)).alloc _
        have hfv : W0.heap[wc.heap.size]? = some (.cells #[.func (.func 65) #[] #[.pointer (some ⟨w.heap.size + 1 + 1, 0, none⟩), .pointer (some ⟨wv.heap.size, 0, none⟩), .pointer (some ⟨w.heap.size, 0, none⟩), .pointer (some ⟨w.heap.size + 1, 0, none⟩), .pointer (some ⟨w.heap.size + 1 + 1 + 1, 0, none⟩), .pointer (some ⟨B2, 0, none⟩), .pointer (some ⟨B1, 0, none⟩)]] 92 (0, 0)) := by
          rw [← hW0]
          exact (((Boxed.new wc 92 (.func (.func 65) #[] #[.pointer (some ⟨w.heap.size + 1 + 1, 0, none⟩), .pointer (some ⟨wv.heap.size, 0, none⟩), .pointer (some ⟨w.heap.size, 0, none⟩), .pointer (some ⟨w.heap.size + 1, 0, none⟩), .pointer (some ⟨w.heap.size + 1 + 1 + 1, 0, none⟩), .pointer (some ⟨B2, 0, none⟩), .pointer (some ⟨B1, 0, none⟩)])).alloc _).alloc _).alloc _
        have hB0 : Below w.heap.size w W0 := hBV.trans ((bW.mono (by have := HSV.out; omega)).trans (bW0.mono (by omega)))
        have hall : Below ((((w.alloc (.cells #[.slice A x.rates.length c, .int .i64 x.base] 26)).alloc (.cells #[.int .i64 z] 3)).alloc (.cells #[.int .i64 a, .int .i64 b] 28)).alloc (.cells #[.int .i64 n] 3)).heap.size ((((w.alloc (.cells #[.slice A x.rates.length c, .int .i64 x.base] 26)).alloc (.cells #[.int .i64 z] 3)).alloc (.cells #[.int .i64 a, .int .i64 b] 28)).alloc (.cells #[.int .i64 n] 3)) W0 := hb2.trans ((bV.mono (by simp; omega)).trans ((bW.mono (by have := HSV.out; simp; omega)).trans (bW0.mono (by simp; omega))))
        have q0 := (hall.block w.heap.size (by simp; omega)).trans KH.out.1
        have q1 := (hall.block (w.heap.size + 1) (by simp)).trans KH.out.2.1
        have q2 := (hall.block (w.heap.size + 1 + 1) (by simp)).trans KH.out.2.2.1
        have q3 := (hall.block (w.heap.size + 1 + 1 + 1) (by simp)).trans KH.out.2.2.2
        have qL := (bW0.block wv.heap.size (by omega)).trans ((bW.block wv.heap.size (by have := HSV.out; omega)).trans bL)
        have y1 : Boxed W0 B1 3 (.int .i64 a) := (bW0.block B1 bx1.lt).trans bx1
        have y2 : Boxed W0 B2 3 (.int .i64 (Tf.win (Tf.price x z) n a)) := (bW0.block B2 bx2.lt).trans bx2
        have m1 := bx1.lt
        have m2 := bx2.lt
        obtain ⟨hB1, hB2⟩ := HB.out
        have hsV := HSV.out
        clear hW0 HSP KH KC HSUM bx1 bx2 c1 c2 d0 d1 dz da db dn bL
        refine wpIn_rangeFunc_ownH rfl (by omega) (gf := 80) (lb := #[.pointer (some ⟨wc.heap.size + 1, 0, none⟩), .pointer (some ⟨wc.heap.size + 1 + 2, 0, none⟩), .pointer (some ⟨wc.heap.size + 1 + 1, 0, none⟩)]) rfl trivial (enters_of Tryz.func80 (by kernel_rfl) rfl)
          (spells1_stops (fun k _ => k = B1 ∨ k = B2) 9 (by omega) x hx A c z a b (by omega) (by omega) ha (by omega) hab _ _ _ W0 hin (by omega) (by omega) (by omega)
            (fun ad had hne => by
              rcases HR0.out with h | ⟨b', off, h1, h2, _⟩
              · exact absurd h hne
              · rw [had] at h1; cases h1; intro t; simp only; omega) (fun k hk => by omega))
          kpS_t kpS_b (Below.refl _ _) (fun _ => rfl)
          (fun pre W => Boxed W B1 3 (.int .i64 (Tf.bestOf wrap64 (Tf.price x z) n a (b - n) pre)) ∧ Boxed W B2 3 (.int .i64 (Tf.win (Tf.price x z) n (Tf.bestOf wrap64 (Tf.price x z) n a (b - n) pre))) ∧ W.heap[w.heap.size]? = some (.cells #[.slice A x.rates.length c, .int .i64 x.base] 26 (0, 0)) ∧ W.heap[w.heap.size + 1]? = some (.cells #[.int .i64 z] 3 (0, 0)) ∧ W.heap[w.heap.size + 1 + 1]? = some (.cells #[.int .i64 a, .int .i64 b] 28 (0, 0)) ∧ W.heap[w.heap.size + 1 + 1 + 1]? = some (.cells #[.int .i64 n] 3 (0, 0)) ∧ W.heap[wv.heap.size]? = some (.cells #[.int .i64 (b - n)] 3 (0, 0)) ∧ W.heap[wc.heap.size]? = some (.cells #[.func (.func 65) #[] #[.pointer (some ⟨w.heap.size + 1 + 1, 0, none⟩), .pointer (some ⟨wv.heap.size, 0, none⟩), .pointer (some ⟨w.heap.size, 0, none⟩), .pointer (some ⟨w.heap.size + 1, 0, none⟩), .pointer (some ⟨w.heap.size + 1 + 1 + 1, 0, none⟩), .pointer (some ⟨B2, 0, none⟩), .pointer (some ⟨B1, 0, none⟩)]] 92 (0, 0)) ∧ Below w.heap.size w W)
          (fun _ _ _ => False)
          (OwnFrom.and (Own.from (boxed_own _ _ _) _) (OwnFrom.and (Own.from (boxed_own _ _ _) _) (OwnFrom.and (Own.from (row_own _ (fun _ => #[.slice A x.rates.length c, .int .i64 x.base]) _ _) _) (OwnFrom.and (Own.from (row_own _ (fun _ => #[.int .i64 z]) _ _) _) (OwnFrom.and (Own.from (row_own _ (fun _ => #[.int .i64 a, .int .i64 b]) _ _) _) (OwnFrom.and (Own.from (row_own _ (fun _ => #[.int .i64 n]) _ _) _) (OwnFrom.and (Own.from (row_own _ (fun _ => #[.int .i64 (b - n)]) _ _) _) (OwnFrom.and (Own.from (row_own _ (fun _ => #[.func (.func 65) #[] #[.pointer (some ⟨w.heap.size + 1 + 1, 0, none⟩), .pointer (some ⟨wv.heap.size, 0, none⟩), .pointer (some ⟨w.heap.size, 0, none⟩), .pointer (some ⟨w.heap.size + 1, 0, none⟩), .pointer (some ⟨w.heap.size + 1 + 1 + 1, 0, none⟩), .pointer (some ⟨B2, 0, none⟩), .pointer (some ⟨B1, 0, none⟩)]]) _ _) _) (ownFrom_below (Nat.le_refl _) (by omega))))))))))
          (fun _ _ _ _ _ hs _ _ => hs)
          ⟨y1, y2, q0, q1, q2, q3, qL, hfv, hB0⟩
          (fun p a' W => ∃ Bx, B1 < Bx ∧ B2 < Bx ∧ W.heap[Bx]? = some (.cells #[.int .i64 p.frm, .int .i64 p.til, .int .i64 p.price] 64 (0, 0)) ∧ a' = { tmps := #[.agg #[.slice A x.rates.length c, .int .i64 x.base], .int .i64 z, .agg #[.int .i64 a, .int .i64 b], .int .i64 n, .pointer (some ⟨w.heap.size, 0, none⟩), .pointer (some ⟨w.heap.size + 1, 0, none⟩), .pointer (some ⟨w.heap.size + 1 + 1, 0, none⟩), .pointer (some ⟨w.heap.size + 1 + 1 + 1, 0, none⟩), .int .i64 0, .int .i64 0, .int .i64 0, .pointer (some ⟨wv.heap.size, 0, none⟩), .pointer (some ⟨B1, 0, none⟩), .pointer (some ⟨B2, 0, none⟩), .pointer (some ⟨wc.heap.size, 0, none⟩), .pointer (some ⟨Bx, 0, none⟩), .agg #[.slice A x.rates.length c, .int .i64 x.base], .int .i64 z, .agg #[.int .i64 a, .int .i64 b], .bool true, .bool false, .bool false, .pointer (some ⟨w.heap.size + 1 + 1, 1, none⟩), .int .i64 b, .pointer (some ⟨w.heap.size + 1 + 1, 0, none⟩), .int .i64 a, .int .i64 (b - a), .bool (decide (100000 < b - a)), .bool (decide (100000 < b - a)), .bool (decide (100000 < b - a)), .int .i64 n, .pointer (some ⟨w.heap.size + 1 + 1, 1, none⟩), .int .i64 b, .pointer (some ⟨w.heap.size + 1 + 1, 0, none⟩), .int .i64 a, .int .i64 (b - a), .bool true, .bool false, .bool (decide (100000 < b - a)), .pointer (some ⟨w.heap.size + 1 + 1, 1, none⟩), .int .i64 b, .int .i64 n, .int .i64 (b - n), u43, u44, u45, u46, u47, u48, u49, u50, u51, u52, u53, u54, .func (.func 65) #[] #[.pointer (some ⟨w.heap.size + 1 + 1, 0, none⟩), .pointer (some ⟨wv.heap.size, 0, none⟩), .pointer (some ⟨w.heap.size, 0, none⟩), .pointer (some ⟨w.heap.size + 1, 0, none⟩), .pointer (some ⟨w.heap.size + 1 + 1 + 1, 0, none⟩), .pointer (some ⟨B2, 0, none⟩), .pointer (some ⟨B1, 0, none⟩)], .agg #[.slice A x.rates.length c, .int .i64 x.base], .int .i64 z, .agg #[.int .i64 a, .int .i64 b], .func (.func 80) #[] #[.pointer (some ⟨wc.heap.size + 1, 0, none⟩), .pointer (some ⟨wc.heap.size + 1 + 2, 0, none⟩), .pointer (some ⟨wc.heap.size + 1 + 1, 0, none⟩)], .agg #[.int .i64 p.frm, .int .i64 p.til, .int .i64 p.price], undef, undef, undef, undef, undef, undef, undef, undef, undef, undef, undef, undef, undef, undef, undef, undef, undef], defers := [] })
          (fun p a' => Own.from (fun s X Y row hs hg hr => by
            obtain ⟨Bx, h1, h1', h2, h3⟩ := hs
            exact ⟨Bx, h1, h1', row_own Bx (fun _ : Unit => #[.int .i64 p.frm, .int .i64 p.til, .int .i64 p.price]) 64 (0, 0) s X Y row h2 hg hr, h3⟩) _)
          ?assign ?body ?done ?stop
        case assign =>
          rintro l pre p W K ⟨x1, x2, h0, h1, h2, h3, hL, hF, hB⟩ hK
          have l1 := x1.lt
          have l2 := x2.lt
          have hsW := hB.size
          unfold encP
          gi_wp2
          refine hK _ _ ((KeepsOthers.alloc _ _).from _) ((KpS.refl _ W).alloc _) ⟨x1.alloc _, x2.alloc _, ?_, ?_, ?_, ?_, ?_, ?_, hB.alloc (by omega) _⟩ ⟨W.heap.size, l1, l2, World.alloc_heap_new W _, rfl⟩
          · rw [heap_past _ _ (Array.getElem?_eq_some_iff.1 h0).1]; exact h0
          · rw [heap_past _ _ (Array.getElem?_eq_some_iff.1 h1).1]; exact h1
          · rw [heap_past _ _ (Array.getElem?_eq_some_iff.1 h2).1]; exact h2
          · rw [heap_past _ _ (Array.getElem?_eq_some_iff.1 h3).1]; exact h3
          · rw [heap_past _ _ (Array.getElem?_eq_some_iff.1 hL).1]; exact hL
          · rw [heap_past _ _ (Array.getElem?_eq_some_iff.1 hF).1]; exact hF
        case body =>
          rintro l pre p a' W hl hr ⟨x1, x2, h0, h1, h2, h3, hL, hF, hB⟩ ⟨Bx, hBx1, hBx2, hpx, rfl⟩ hlen
          have l1 := x1.lt
          have l2 := x2.lt
          have f0 : W.cell? ⟨wc.heap.size, 0, none⟩ = some (.func (.func 65) #[] #[.pointer (some ⟨w.heap.size + 1 + 1, 0, none⟩), .pointer (some ⟨wv.heap.size, 0, none⟩), .pointer (some ⟨w.heap.size, 0, none⟩), .pointer (some ⟨w.heap.size + 1, 0, none⟩), .pointer (some ⟨w.heap.size + 1 + 1 + 1, 0, none⟩), .pointer (some ⟨B2, 0, none⟩), .pointer (some ⟨B1, 0, none⟩)]) := by simp [World.cell?, hF]
          have r0 : W.cell? ⟨Bx, 0, none⟩ = some (.int .i64 p.frm) := by simp [World.cell?, hpx]
          have r1 : W.cell? ⟨w.heap.size + 1 + 1 + 1, 0, none⟩ = some (.int .i64 n) := by simp [World.cell?, h3]
          have hlW : ∀ {k : Nat} {o : Obj}, W.heap[k]? = some o → k < W.heap.size := fun h => (Array.getElem?_eq_some_iff.1 h).1
          have hc1 := HTRY.out p.frm _ wv.heap.size w.heap.size (w.heap.size + 1) (w.heap.size + 1 + 1 + 1) B2 B1 (fun e => hne e.symm) W (by simp [World.cell?, h2]) (by simp [World.cell?, hL]) (by simp [World.cell?, h0]) (by simp [World.cell?, h0]) (by simp [World.cell?, h1]) r1 ((HR0.out).below (hB.mono (Nat.le_refl _))) x2 x1
          have hbl : ∀ (b1 : Int) (W1 : World), Tried B1 B2 (Tf.price x z) n b1 W W1 → ∀ (k : Nat) (o : Obj), W.heap[k]? = some o → k ≠ B1 → k ≠ B2 → W1.heap[k]? = some o := fun b1 W1 hT k o h e1 e2 => (hT.blk k (hlW h) e1 e2).trans h
          have HC1 := Lib.hid hc1
          have HBL := Lib.hid hbl
          have HX := Lib.hid (And.intro h0 (And.intro h1 (And.intro h2 (And.intro h3 (And.intro hL (And.intro hF hpx))))))
          have HBB := Lib.hid hB
          have HXX := Lib.hid (And.intro x1 x2)
          clear hc1 hbl h0 h1 h2 h3 hL hF hpx hlW x1 x2 hall q0 q1 q2 q3 qL y1 y2 hB0 hB
          have HB12 := Lib.hid (And.intro (And.intro hB1 hB2) (And.intro hBx1 hBx2))
          have HNE := Lib.hid (And.intro m1 m2)
          clear hB1 hB2 hBx1 hBx2 m1 m2 hsV
          gi_wp2_with (first | (refine ⟨trivial, ?_⟩; gi_at_call 65; refine (wideC HC2.out).mono ?_; rintro e w2 ⟨⟨v2, rfl⟩, hT2⟩) | (refine ⟨trivial, ?_⟩; gi_at_call 65; refine (wideC HC1.out).mono ?_; rintro e w1 ⟨⟨v1, rfl⟩, hT⟩; have g0 := HBL.out _ w1 hT _ _ HX.out.1 (by have := HB12.out; have := HSV.out; omega) (by have := HB12.out; have := HSV.out; omega); have g1 := HBL.out _ w1 hT _ _ HX.out.2.1 (by have := HB12.out; have := HSV.out; omega) (by have := HB12.out; have := HSV.out; omega); have g2 := HBL.out _ w1 hT _ _ HX.out.2.2.1 (by have := HB12.out; have := HSV.out; omega) (by have := HB12.out; have := HSV.out; omega); have g3 := HBL.out _ w1 hT _ _ HX.out.2.2.2.1 (by have := HB12.out; have := HSV.out; omega) (by have := HB12.out; have := HSV.out; omega); have gL := HBL.out _ w1 hT _ _ HX.out.2.2.2.2.1 (by have := HB12.out; have := HSV.out; omega) (by have := HB12.out; have := HSV.out; omega); have gF := HBL.out _ w1 hT _ _ HX.out.2.2.2.2.2.1 (by have := HNE.out; omega) (by have := HNE.out; omega); have gP := HBL.out _ w1 hT _ _ HX.out.2.2.2.2.2.2 (by have := HB12.out; omega) (by have := HB12.out; omega); have f1 : w1.cell? ⟨wc.heap.size, 0, none⟩ = some (.func (.func 65) #[] #[.pointer (some ⟨w.heap.size + 1 + 1, 0, none⟩), .pointer (some ⟨wv.heap.size, 0, none⟩), .pointer (some ⟨w.heap.size, 0, none⟩), .pointer (some ⟨w.heap.size + 1, 0, none⟩), .pointer (some ⟨w.heap.size + 1 + 1 + 1, 0, none⟩), .pointer (some ⟨B2, 0, none⟩), .pointer (some ⟨B1, 0, none⟩)]) := (by simp [World.cell?, gF]); have s0 : w1.cell? ⟨Bx, 0, none⟩ = some (.int .i64 p.frm) := (by simp [World.cell?, gP]); have s1 : w1.cell? ⟨w.heap.size + 1 + 1 + 1, 0, none⟩ = some (.int .i64 n) := (by simp [World.cell?, g3]); have HB1 := Lib.hid (hT.bel w.heap.size (by have := HB12.out; have := HSV.out; omega) (by have := HB12.out; have := HSV.out; omega) HBB.out.size); have HC2 := Lib.hid (HTRY.out (wrap64 (p.frm - n)) _ wv.heap.size w.heap.size (w.heap.size + 1) (w.heap.size + 1 + 1 + 1) B2 B1 (fun e => hne e.symm) w1 (by simp [World.cell?, g2]) (by simp [World.cell?, gL]) (by simp [World.cell?, g0]) (by simp [World.cell?, g0]) (by simp [World.cell?, g1]) s1 (HR0.out.below ((HBB.out.mono (Nat.le_refl _)).trans HB1.out)) hT.x2 hT.x1); have HG := Lib.hid (And.intro g0 (And.intro g1 (And.intro g2 (And.intro g3 (And.intro gL gF))))); clear g0 g1 g2 g3 gL gF gP))
          have hbl2 : ∀ (k : Nat) (o : Obj), w1.heap[k]? = some o → k ≠ B1 → k ≠ B2 → w2.heap[k]? = some o := fun k o h e1 e2 => (hT2.blk k (Array.getElem?_eq_some_iff.1 h).1 e1 e2).trans h
          have e1 := HB12.out
          have e2 := HSV.out
          have e3 := HNE.out
          refine ⟨(hT.ko.trans hT2.ko).from _, hT.kp.trans hT2.kp, ?_⟩
          dsimp only
          rw [Tf.bestOf_snoc]
          exact ⟨hT2.x1, hT2.x2, hbl2 _ _ HG.out.1 (by omega) (by omega), hbl2 _ _ HG.out.2.1 (by omega) (by omega), hbl2 _ _ HG.out.2.2.1 (by omega) (by omega), hbl2 _ _ HG.out.2.2.2.1 (by omega) (by omega), hbl2 _ _ HG.out.2.2.2.2.1 (by omega) (by omega), hbl2 _ _ HG.out.2.2.2.2.2 (by omega) (by omega), HBB.out.trans (HB1.out.trans (hT2.bel w.heap.size (by omega) (by omega) (by have := HBB.out.size; have := HB1.out.size; omega)))⟩
        case done =>
          rintro D ys W hD rfl ⟨x1, x2, h0, h1, h2, h3, hL, hF, hB⟩ hK
          have f0 : W.cell? ⟨wc.heap.size, 0, none⟩ = some (.func (.func 65) #[] #[.pointer (some ⟨w.heap.size + 1 + 1, 0, none⟩), .pointer (some ⟨wv.heap.size, 0, none⟩), .pointer (some ⟨w.heap.size, 0, none⟩), .pointer (some ⟨w.heap.size + 1, 0, none⟩), .pointer (some ⟨w.heap.size + 1 + 1 + 1, 0, none⟩), .pointer (some ⟨B2, 0, none⟩), .pointer (some ⟨B1, 0, none⟩)]) := by simp [World.cell?, hF]
          have r1 : W.cell? ⟨wv.heap.size, 0, none⟩ = some (.int .i64 (b - n)) := by simp [World.cell?, hL]
          have HC1 := Lib.hid (HTRY.out (b - n) _ wv.heap.size w.heap.size (w.heap.size + 1) (w.heap.size + 1 + 1 + 1) B2 B1 (fun e => hne e.symm) W (by simp [World.cell?, h2]) r1 (by simp [World.cell?, h0]) (by simp [World.cell?, h0]) (by simp [World.cell?, h1]) (by simp [World.cell?, h3]) ((HR0.out).below (hB.mono (Nat.le_refl _))) x2 x1)
          have HX := Lib.hid (And.intro hB (And.intro hK (And.intro x1 x2)))
          have HN := Lib.hid (And.intro m1 (And.intro m2 (And.intro hD (And.intro sW0 (And.intro hB1 hB2)))))
          clear h0 h1 h2 h3 hL hF x1 x2 hall q0 q1 q2 q3 qL y1 y2 hB0 hB hK m1 m2 hD sW0 hB1 hB2 hsV hin hfv bW0
          gi_wp2_with (refine ⟨trivial, ?_⟩; gi_at_call 65; refine (wideC HC1.out).mono ?_; rintro e w1 ⟨⟨v1, rfl⟩, hT⟩; have c1 := hT.x1.cell; have c2 := hT.x2.cell)
          refine wpIn_region_quiet_litR (by kernel_rfl) (by kernel_rfl) (by kernel_rfl) ?_
          repeat (gi_big_quiet_step (fail))
          refine wpQuietIn_nil ?_
          intro _ hw'
          obtain ⟨nq, hw''⟩ := hw'
          subst hw''
          obtain ⟨hB, hK, x1, x2⟩ := HX.out
          obtain ⟨m1, m2, hD, sW0, hB1, hB2⟩ := HN.out
          have e2 := HSV.out
          have hK1 : (w1.drewN nq).heap[D]? = some (Obj.deferred (some [])) := (hT.blk D (Array.getElem?_eq_some_iff.1 hK).1 (by omega) (by omega)).trans hK
          have hBf : Below w.heap.size w (w1.drewN nq) := hB.trans ((hT.bel w.heap.size (by omega) (by omega) hB.size).trans (below_drewN (Below.refl _ _) nq))
          have hfirst := Tf.first_tried (wr := wrap64) (Tf.pcsT_chain hx z (a := a) (b := b) hab) h4.1 (by omega) (fun t t1 t2 => by unfold wrap64; omega)
          clear HX HN
          gi_wp2
          refine ⟨by simp, .inl ⟨_, _, rfl, run_takeDeferred hK1, ?_⟩⟩
          exact ⟨_, results_tmp3 rfl _ _ _, ⟨_, hfirst, rfl⟩, hBf.trans (belowK_b (w := w) (Nat.le_refl _) (w1.drewN nq) D _ _ (by omega) hK1 rfl rfl)⟩
        case stop =>
          rintro D cc pre W hD _ h _
          exact h.elim
end Go.Proofs.YtbenflnpnohcjaaGreatDoor

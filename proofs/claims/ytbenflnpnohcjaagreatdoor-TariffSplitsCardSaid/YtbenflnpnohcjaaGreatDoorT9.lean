/- The contract of the closure of tariff.Cheapest: one beginning is tried. -/
import Derived.Test.YtbenflnpnohcjaaGreatDoorT8
import Derived.Test.YtbenflnpnohcjaaGreatDoorTfTry
namespace Go.Proofs.YtbenflnpnohcjaaGreatDoor
open Go.RowKit Go.Shelf

attribute [local go_sem] Oper.semAt_some


set_option maxRecDepth 100000 in
set_option maxHeartbeats 2000000 in
theorem try_any (x : Tf.Tariff) (hx : Tf.okT x = true) (A : Option Addr) (c : Nat) (z a n last t best : Int) (hz1 : -60000 ≤ z) (hz2 : z ≤ 60000) (ha : 0 ≤ a) (hl : last + n ≤ 20000000) (hn0 : 0 ≤ n)
    (Bw Bl Bx Bz Bn Bm Bb : Nat) (hne : Bm ≠ Bb) (w : World)
    (cw0 : w.cell? ⟨Bw, 0, none⟩ = some (.int .i64 a)) (cl : w.cell? ⟨Bl, 0, none⟩ = some (.int .i64 last))
    (cx0 : w.cell? ⟨Bx, 0, none⟩ = some (.slice A x.rates.length c)) (cx1 : w.cell? ⟨Bx, 1, none⟩ = some (.int .i64 x.base)) (cz : w.cell? ⟨Bz, 0, none⟩ = some (.int .i64 z)) (cn : w.cell? ⟨Bn, 0, none⟩ = some (.int .i64 n)) (hR : RatesAt w A x.rates)
    (hm : Boxed w Bm 3 (.int .i64 (Tf.win (Tf.price x z) n best))) (hb : Boxed w Bb 3 (.int .i64 best)) :
    Calls Tryz.prog 65 #[.int .i64 t, .pointer (some ⟨Bw, 0, none⟩), .pointer (some ⟨Bl, 0, none⟩), .pointer (some ⟨Bx, 0, none⟩), .pointer (some ⟨Bz, 0, none⟩), .pointer (some ⟨Bn, 0, none⟩), .pointer (some ⟨Bm, 0, none⟩), .pointer (some ⟨Bb, 0, none⟩)] w fun e w' =>
      (∃ v, e = .returned v) ∧ ∃ w1, Below w.heap.size w w1 ∧ ((w' = w1 ∧ Tf.tryB (Tf.price x z) n a last t best = best) ∨ (w' = (w1.setCell ⟨Bb, 0, none⟩ (.int .i64 (Tf.tryB (Tf.price x z) n a last t best))).setCell ⟨Bm, 0, none⟩ (.int .i64 (Tf.win (Tf.price x z) n (Tf.tryB (Tf.price x z) n a last t best))))) := by
  have kb := hb.cell
  have km := hm.cell
  have fb := hb.frozen
  have fm := hm.frozen
  cases h1 : inB t a last with
  | false =>
    have e1 : Tf.tryB (Tf.price x z) n a last t best = best := by
      have := inB_not.1 h1
      unfold Tf.tryB; rw [if_neg (by omega)]
    rw [e1]
    clear hR hm hb
    go_enter Tryz.func65, Tryz.ntmps65
    go_wp2_with (go_at_call 48; refine (isIn_any _ _ _ _).mono ?_; rintro e w' ⟨rfl, rfl⟩)
    first | go_end0 | (refine bodyPost_ret (results_none rfl _ _ _) rfl ?_)
    exact ⟨⟨_, rfl⟩, _, Below.refl _ _, .inl ⟨rfl, by trivial⟩⟩
  | true =>
    have h2 := inB_iff.1 h1
    have hs := fun W hR => sum_any x hx A c z t (t + n) hz1 hz2 (by omega) (by omega) (by omega) W hR
    have hwin : Tf.S (Tf.price x z) t (t + n) = Tf.win (Tf.price x z) n t := rfl
    rw [hwin] at hs
    have hB := fun W => hs W
    have hbd := Tf.sum_bounds hx z (a := t) (b := t + n) (by omega)
    rw [hwin] at hbd
    have htr : Tf.tryB (Tf.price x z) n a last t best = if Tf.win (Tf.price x z) n t < Tf.win (Tf.price x z) n best ∨ Tf.win (Tf.price x z) n t = Tf.win (Tf.price x z) n best ∧ t < best then t else best := by
      unfold Tf.tryB
      simp only [h2, and_self, true_and]
    rw [htr]
    have HS := Lib.hid hs
    clear hs hB htr hwin
    have HR := Lib.hid hR
    clear hR
    by_cases h3 : Tf.win (Tf.price x z) n t < Tf.win (Tf.price x z) n best ∨ Tf.win (Tf.price x z) n t = Tf.win (Tf.price x z) n best ∧ t < best
    · rw [if_pos h3]
      generalize Tf.win (Tf.price x z) n t = s at *
      generalize Tf.win (Tf.price x z) n best = m at *
      have hcs : s < m ∨ ¬ s < m ∧ s = m ∧ t < best := by omega
      clear h3
      rcases hcs with h3 | ⟨h3, rfl, h4⟩
      all_goals
        go_enter Tryz.func65, Tryz.ntmps65
        go_wp2_with (first | (go_at_call 48; refine (isIn_any _ _ _ _).mono ?_; rintro e w' ⟨rfl, rfl⟩) | (go_at_call 57; refine (HS.out _ HR.out).mono ?_; rintro e w1 ⟨rfl, hb2⟩; have kb1 := cell_below hb2 kb; have km1 := cell_below hb2 km; have fb1 := (hb2.frozen (p := ⟨Bb, 0, none⟩) (World.block_lt_of_cell? _ _ kb)).trans fb; have fm1 := (hb2.frozen (p := ⟨Bm, 0, none⟩) (World.block_lt_of_cell? _ _ km)).trans fm))
        first | go_end0 | (refine bodyPost_ret (results_none rfl _ _ _) rfl ?_)
        exact ⟨⟨_, rfl⟩, _, hb2, .inr rfl⟩
    · rw [if_neg h3]
      generalize Tf.win (Tf.price x z) n t = s at *
      generalize Tf.win (Tf.price x z) n best = m at *
      have hcs : ¬ s < m ∧ (s = m ∧ ¬ t < best ∨ ¬ s = m) := by omega
      clear h3
      rcases hcs with ⟨h3, ⟨h4, h5⟩ | h4⟩
      all_goals
        go_enter Tryz.func65, Tryz.ntmps65
        go_wp2_with (first | (go_at_call 48; refine (isIn_any _ _ _ _).mono ?_; rintro e w' ⟨rfl, rfl⟩) | (go_at_call 57; refine (HS.out _ HR.out).mono ?_; rintro e w1 ⟨rfl, hb2⟩; have kb1 := cell_below hb2 kb; have km1 := cell_below hb2 km; have fb1 := (hb2.frozen (p := ⟨Bb, 0, none⟩) (World.block_lt_of_cell? _ _ kb)).trans fb; have fm1 := (hb2.frozen (p := ⟨Bm, 0, none⟩) (World.block_lt_of_cell? _ _ km)).trans fm))
        first | go_end0 | (refine bodyPost_ret (results_none rfl _ _ _) rfl ?_)
        exact ⟨⟨_, rfl⟩, _, hb2, .inl ⟨rfl, by trivial⟩⟩

/-- What one try leaves. -/
structure Tried (B1 B2 : Nat) (f : Int → Int) (n b1 : Int) (W W' : World) : Prop where
  x1 : Boxed W' B1 3 (.int .i64 b1)
  x2 : Boxed W' B2 3 (.int .i64 (Tf.win f n b1))
  ko : KeepsOthers W W'
  kp : KpS (fun k _ => k = B1 ∨ k = B2) W W'
  blk : ∀ k, k < W.heap.size → k ≠ B1 → k ≠ B2 → W'.heap[k]? = W.heap[k]?
  bel : ∀ N, N ≤ B1 → N ≤ B2 → N ≤ W.heap.size → Below N W W'

theorem heap_set_other (W : World) (B k : Nat) (v : Value) (h : k ≠ B) : (W.setCell ⟨B, 0, none⟩ v).heap[k]? = W.heap[k]? := by
  by_cases hk : k < W.heap.size
  · exact (grownBy_setCell' W B v).block k hk (fun e => h (by cases e; rfl))
  · have h1 : (W.setCell ⟨B, 0, none⟩ v).heap.size = W.heap.size := by simp
    rw [Array.getElem?_eq_none (by omega), Array.getElem?_eq_none (by omega)]

theorem tried_of {B1 B2 : Nat} {f : Int → Int} {n b0 b1 : Int} {W w1 w' : World} (hne : B2 ≠ B1) (h2 : Boxed W B2 3 (.int .i64 (Tf.win f n b0))) (h1 : Boxed W B1 3 (.int .i64 b0)) (hb : Below W.heap.size W w1)
    (h : (w' = w1 ∧ b1 = b0) ∨ w' = (w1.setCell ⟨B1, 0, none⟩ (.int .i64 b1)).setCell ⟨B2, 0, none⟩ (.int .i64 (Tf.win f n b1))) : Tried B1 B2 f n b1 W w' := by
  have q1 : Boxed w1 B1 3 (.int .i64 b0) := (hb.block B1 h1.lt).trans h1
  have q2 : Boxed w1 B2 3 (.int .i64 (Tf.win f n b0)) := (hb.block B2 h2.lt).trans h2
  rcases h with ⟨rfl, rfl⟩ | rfl
  · exact ⟨q1, q2, keepsOthers_below hb, KpS.of_below hb, fun k hk _ _ => hb.block k hk, fun N _ _ h => hb.mono h⟩
  · refine ⟨(q1.set _).other (fun e => hne e.symm) _, (q2.other hne _).set _, ((keepsOthers_below hb).trans (KeepsOthers.setCell _ _ _)).trans (KeepsOthers.setCell _ _ _), ?_, ?_, ?_⟩
    · exact ((KpS.of_below hb).setCell (p := ⟨B1, 0, none⟩) (fun _ _ _ _ => .inl rfl) _).setCell (p := ⟨B2, 0, none⟩) (fun _ _ _ _ => .inr rfl) _
    · intro k hk k1 k2
      rw [heap_set_other _ _ _ _ k2, heap_set_other _ _ _ _ k1]
      exact hb.block k hk
    · intro N n1 n2 n3
      exact ((hb.mono n3).setCell (p := ⟨B1, 0, none⟩) n1 _).setCell (p := ⟨B2, 0, none⟩) n2 _

theorem try_two (x : Tf.Tariff) (hx : Tf.okT x = true) (A : Option Addr) (c : Nat) (z a n last t best : Int) (hz1 : -60000 ≤ z) (hz2 : z ≤ 60000) (ha : 0 ≤ a) (hl : last + n ≤ 20000000) (hn0 : 0 ≤ n)
    (Bw Bl Bx Bz Bn Bm Bb : Nat) (hne : Bm ≠ Bb) (w : World)
    (cw0 : w.cell? ⟨Bw, 0, none⟩ = some (.int .i64 a)) (cl : w.cell? ⟨Bl, 0, none⟩ = some (.int .i64 last))
    (cx0 : w.cell? ⟨Bx, 0, none⟩ = some (.slice A x.rates.length c)) (cx1 : w.cell? ⟨Bx, 1, none⟩ = some (.int .i64 x.base)) (cz : w.cell? ⟨Bz, 0, none⟩ = some (.int .i64 z)) (cn : w.cell? ⟨Bn, 0, none⟩ = some (.int .i64 n)) (hR : RatesAt w A x.rates)
    (hm : Boxed w Bm 3 (.int .i64 (Tf.win (Tf.price x z) n best))) (hb : Boxed w Bb 3 (.int .i64 best)) :
    Calls Tryz.prog 65 #[.int .i64 t, .pointer (some ⟨Bw, 0, none⟩), .pointer (some ⟨Bl, 0, none⟩), .pointer (some ⟨Bx, 0, none⟩), .pointer (some ⟨Bz, 0, none⟩), .pointer (some ⟨Bn, 0, none⟩), .pointer (some ⟨Bm, 0, none⟩), .pointer (some ⟨Bb, 0, none⟩)] w fun e w' =>
      (∃ v, e = .returned v) ∧ Tried Bb Bm (Tf.price x z) n (Tf.tryB (Tf.price x z) n a last t best) w w' := by
  refine (try_any x hx A c z a n last t best hz1 hz2 ha hl hn0 Bw Bl Bx Bz Bn Bm Bb hne w cw0 cl cx0 cx1 cz cn hR hm hb).mono ?_
  rintro e w' ⟨he, w1, hbel, h⟩
  exact ⟨he, tried_of hne hm hb hbel h⟩
end Go.Proofs.YtbenflnpnohcjaaGreatDoor

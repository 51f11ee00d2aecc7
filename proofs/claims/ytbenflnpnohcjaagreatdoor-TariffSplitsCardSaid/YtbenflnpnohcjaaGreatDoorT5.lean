/- The contract of tariff.sum. -/
import Derived.Test.YtbenflnpnohcjaaGreatDoorT4
namespace Go.Proofs.YtbenflnpnohcjaaGreatDoor
open Go.RowKit Go.Shelf

attribute [local go_sem] Oper.semAt_some

theorem spells_any (A : Option Addr) (n c : Nat) (base z a b : Int) (w : World) :
    Calls Tryz.prog 61 #[.agg #[.slice A n c, .int .i64 base], .int .i64 z, .agg #[.int .i64 a, .int .i64 b]] w fun e w' =>
      e = .returned (.func (.func 80) #[] #[.pointer (some ⟨w.heap.size, 0, none⟩), .pointer (some ⟨w.heap.size + 2, 0, none⟩), .pointer (some ⟨w.heap.size + 1, 0, none⟩)]) ∧
      ((w.alloc (.cells #[.slice A n c, .int .i64 base] 26)).alloc (.cells #[.int .i64 z] 3)).alloc (.cells #[.int .i64 a, .int .i64 b] 28) = w' := by
  go_enter Tryz.func61, Tryz.ntmps61
  go_wp2
  go_ret
  exact ⟨rfl, rfl⟩

namespace Tf
/-- What pieces cost, as the machine adds it up. -/
def costW (l : List Pc) : Int := l.foldl (fun s p => wrap64 (s + wrap64 (p.price * wrap64 (p.til - p.frm)))) 0
theorem costW_snoc (l : List Pc) (p : Pc) : costW (l ++ [p]) = wrap64 (costW l + wrap64 (p.price * wrap64 (p.til - p.frm))) := by simp [costW]
end Tf

theorem row_own {β : Type} (B : Nat) (c : β → Array Value) (t : TypeId) (f : Nat × Nat) : Own (fun (s : β) W => W.heap[B]? = some (.cells (c s) t f)) := fun s X Y row hs hg hrow =>
  (hg.block B (Array.getElem?_eq_some_iff.1 hs).1 (fun e => by obtain ⟨o, ho, hc⟩ := hrow B e.symm; rw [hs] at ho; cases ho; cases hc)).trans hs

set_option maxRecDepth 100000 in
set_option maxHeartbeats 4000000 in
theorem sum1_any (x : Tf.Tariff) (hx : Tf.okT x = true) (A : Option Addr) (c : Nat) (z a b : Int) (hz1 : -60000 ≤ z) (hz2 : z ≤ 60000) (ha : 0 ≤ a) (hb : b ≤ 20000000) (hab : a ≤ b) (B1 B2 : Nat) (w : World)
    (c10 : w.cell? ⟨B1, 0, none⟩ = some (.slice A x.rates.length c)) (c11 : w.cell? ⟨B1, 1, none⟩ = some (.int .i64 x.base)) (c20 : w.cell? ⟨B2, 0, none⟩ = some (.int .i64 z)) (hR : RatesAt w A x.rates) :
    Calls Tryz.prog 78 #[.agg #[.int .i64 a, .int .i64 b], .pointer (some ⟨B1, 0, none⟩), .pointer (some ⟨B2, 0, none⟩)] w fun e w' => e = .returned (.int .i64 (Tf.costW (Tf.pcsT x z a b))) ∧ Below w.heap.size w w' := by
  have hB1 := World.block_lt_of_cell? w _ c10
  have hB2 := World.block_lt_of_cell? w _ c20
  simp only at hB1 hB2
  have hsp := fun W => spells_any A x.rates.length c x.base z a b W
  have HSP := Lib.hid hsp
  clear hsp
  refine wideC' (n := 10) ?_
  refine callsIn_of_wp_marks Tryz.func78 rfl trivial ?_ rfl
  simp only [Tryz.ntmps78, List.size_toArray, List.length_cons, List.length_nil, Nat.reduceAdd, Nat.reduceSub, Array.replicate_succ, Array.replicate_zero, List.push_toArray, List.append_toArray, List.nil_append, List.cons_append]
  gi_wp2_with (refine ⟨trivial, ?_⟩; gi_at_call 61; refine (wideC (HSP.out _)).mono ?_; rintro e w1 ⟨rfl, rfl⟩)
  obtain ⟨W0, hW0⟩ : ∃ W0, (((((w.alloc (.cells #[.int .i64 a, .int .i64 b] 28)).alloc (.cells #[.int .i64 0] 3)).alloc (.cells #[.slice A x.rates.length c, .int .i64 x.base] 26)).alloc (.cells #[.int .i64 z] 3)).alloc (.cells #[.int .i64 a, .int .i64 b] 28)) = W0 := ⟨_, rfl⟩
  rw [hW0]
  have hsz : W0.heap.size = w.heap.size + 5 := by rw [← hW0]; simp
  have hB0 : Below w.heap.size w W0 := by
    rw [← hW0]
    exact ((((((Below.refl _ w).alloc (Nat.le_refl _) _).alloc (by simp) _).alloc (by simp; omega) _).alloc (by simp; omega) _).alloc (by simp; omega) _)
  have bN : Boxed W0 (w.heap.size + 1) 3 (.int .i64 0) := by
    have := Boxed.new (w.alloc (.cells #[.int .i64 a, .int .i64 b] 28)) 3 (.int .i64 0)
    rw [World.size_alloc] at this
    rw [← hW0]
    exact ((this.alloc _).alloc _).alloc _
  have hin : SpIn x A c z a b (w.heap.size + 1 + 1) (w.heap.size + 1 + 1 + 2) (w.heap.size + 1 + 1 + 1) W0 := by
    refine ⟨?_, ?_, ?_, ?_, ?_, hR.below hB0, ?_, ?_, ?_⟩ <;> rw [← hW0]
    · simp [go_sem]
    · simp [go_sem]
    · simp [go_sem]
    · simp [go_sem]
    · simp [go_sem]
    · exact ((typed_at (((w.alloc (.cells #[.int .i64 a, .int .i64 b] 28)).alloc (.cells #[.int .i64 0] 3))) _ 26 (by simp)).alloc _).alloc _
    · exact typed_at ((((w.alloc (.cells #[.int .i64 a, .int .i64 b] 28)).alloc (.cells #[.int .i64 0] 3)).alloc (.cells #[.slice A x.rates.length c, .int .i64 x.base] 26)).alloc (.cells #[.int .i64 z] 3)) _ 28 (by simp)
    · exact (typed_at ((((w.alloc (.cells #[.int .i64 a, .int .i64 b] 28)).alloc (.cells #[.int .i64 0] 3)).alloc (.cells #[.slice A x.rates.length c, .int .i64 x.base] 26))) _ 3 (by simp)).alloc _
  clear hW0 HSP
  refine wpIn_rangeFunc_ownH rfl (by omega) (gf := 80) (lb := #[.pointer (some ⟨w.heap.size + 1 + 1, 0, none⟩), .pointer (some ⟨w.heap.size + 1 + 1 + 2, 0, none⟩), .pointer (some ⟨w.heap.size + 1 + 1 + 1, 0, none⟩)]) rfl trivial (enters_of Tryz.func80 (by kernel_rfl) rfl)
    (spells1_stops (fun k _ => k = w.heap.size + 1) 9 (by omega) x hx A c z a b hz1 hz2 ha hb hab _ _ _ W0 hin (by omega) (by omega) (by omega)
      (fun ad had hne => by
        rcases hR with h | ⟨b, off, h1, h2, _⟩
        · exact absurd h hne
        · rw [had] at h1; cases h1; intro t; simp only; omega) (fun k hk => by omega))
    kpS_t kpS_b (Below.refl _ _) (fun _ => rfl)
    (fun pre W => Boxed W (w.heap.size + 1) 3 (.int .i64 (Tf.costW pre)) ∧ Below w.heap.size w W)
    (fun _ _ _ => False)
    (OwnFrom.and (Own.from (boxed_own _ _ _) _) (ownFrom_below (Nat.le_refl _) (by omega)))
    (fun _ _ _ _ _ hs _ _ => hs)
    ⟨bN, hB0⟩
    (fun p a' W => ∃ Bx, w.heap.size + 1 < Bx ∧ W.heap[Bx]? = some (.cells #[.int .i64 p.frm, .int .i64 p.til, .int .i64 p.price] 64 (0, 0)) ∧ a' = { tmps := #[.agg #[.int .i64 a, .int .i64 b], .pointer (some ⟨B1, 0, none⟩), .pointer (some ⟨B2, 0, none⟩), .pointer (some ⟨w.heap.size, 0, none⟩), .int .i64 0, .pointer (some ⟨w.heap.size + 1, 0, none⟩), .pointer (some ⟨Bx, 0, none⟩), .agg #[.slice A x.rates.length c, .int .i64 x.base], .int .i64 z, .agg #[.int .i64 a, .int .i64 b], .func (.func 80) #[] #[.pointer (some ⟨w.heap.size + 1 + 1, 0, none⟩), .pointer (some ⟨w.heap.size + 1 + 1 + 2, 0, none⟩), .pointer (some ⟨w.heap.size + 1 + 1 + 1, 0, none⟩)], .agg #[.int .i64 p.frm, .int .i64 p.til, .int .i64 p.price], undef, undef, undef, undef, undef, undef, undef, undef, undef, undef, undef, undef, undef], defers := [] })
    (fun p a' => Own.from (fun s X Y row hs hg hr => by
      obtain ⟨Bx, h1, h2, h3⟩ := hs
      exact ⟨Bx, h1, row_own Bx (fun _ : Unit => #[.int .i64 p.frm, .int .i64 p.til, .int .i64 p.price]) 64 (0, 0) s X Y row h2 hg hr, h3⟩) _)
    ?assign ?body ?done ?stop
  case assign =>
    rintro l pre p W K ⟨hi, hB⟩ hK
    have hsW := hB.size
    have hlt := hi.lt
    unfold encP
    gi_wp2
    exact hK _ _ ((KeepsOthers.alloc _ _).from _) ((KpS.refl _ W).alloc _) ⟨hi.alloc _, hB.alloc (by omega) _⟩ ⟨W.heap.size, by omega, World.alloc_heap_new W _, rfl⟩
  case body =>
    rintro l pre p a' W hl hr ⟨hi, hB⟩ ⟨Bx, hBx, hrow, rfl⟩ hlen
    have hc := hi.cell
    have hf := hi.frozen
    have r0 : W.cell? ⟨Bx, 0, none⟩ = some (.int .i64 p.frm) := by simp [World.cell?, hrow]
    have r1 : W.cell? ⟨Bx, 1, none⟩ = some (.int .i64 p.til) := by simp [World.cell?, hrow]
    have r2 : W.cell? ⟨Bx, 2, none⟩ = some (.int .i64 p.price) := by simp [World.cell?, hrow]
    gi_wp2
    exact ⟨(KeepsOthers.setCell _ _ _).from _, (KpS.refl (fun k _ => k = w.heap.size + 1) W).setCell (p := ⟨w.heap.size + 1, 0, none⟩) (fun _ _ _ _ => rfl) _, by rw [Tf.costW_snoc]; exact hi.set _, hB.setCell (p := ⟨w.heap.size + 1, 0, none⟩) (by simp) _⟩
  case done =>
    rintro D ys W hD rfl ⟨hi, hB⟩ hK
    have hc := hi.cell
    gi_wp2
    refine ⟨by simp, .inl ⟨_, _, rfl, run_takeDeferred hK, ?_⟩⟩
    exact ⟨_, results_tmp rfl _ _ _, rfl, hB.trans (belowK_b (w := w) (Nat.le_refl _) W D _ _ (by omega) hK rfl rfl)⟩
  case stop =>
    rintro D cc pre W hD _ h _
    exact h.elim
end Go.Proofs.YtbenflnpnohcjaaGreatDoor

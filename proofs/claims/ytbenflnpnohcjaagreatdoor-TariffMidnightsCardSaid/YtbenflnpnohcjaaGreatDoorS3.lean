/- The law's example, and sane. -/
import Derived.Test.YtbenflnpnohcjaaGreatDoorTfEx
import Derived.Deep.RegionHeld3
namespace Go.Proofs.YtbenflnpnohcjaaGreatDoor
open Go.RowKit Go.Shelf

theorem example_any (w : World) : Calls Tryz.prog 44 #[] w fun e w' => (∃ A c, e = .returned (.agg #[.slice A 2 c, .int .i64 600]) ∧ RatesAt w' A ex.rates) ∧ Below w.heap.size w w' := by
  go_enter Tryz.func44, Tryz.ntmps44
  go_wp2
  have t1 : ((w.alloc (.cells #[.slice (some ⟨w.heap.size + 1, 0, none⟩) 2 2, .int .i64 600] 26)).alloc (.cells #[.int .i64 96, .int .i64 0, .int .i64 86400, .int .i64 60, .int .i64 127, .int .i64 0, .int .i64 28800, .int .i64 120] 68)).heap[w.heap.size]? = some (.cells #[.slice (some ⟨w.heap.size + 1, 0, none⟩) 2 2, .int .i64 600] 26 (0, 0)) := by
    rw [heap_past' _ _ (by simp), heap_at' _ _ rfl]
  have t2 : ((w.alloc (.cells #[.slice (some ⟨w.heap.size + 1, 0, none⟩) 2 2, .int .i64 600] 26)).alloc (.cells #[.int .i64 96, .int .i64 0, .int .i64 86400, .int .i64 60, .int .i64 127, .int .i64 0, .int .i64 28800, .int .i64 120] 68)).heap[w.heap.size + 1]? = some (.cells #[.int .i64 96, .int .i64 0, .int .i64 86400, .int .i64 60, .int .i64 127, .int .i64 0, .int .i64 28800, .int .i64 120] 68 (0, 0)) := heap_at' _ _ (by simp)
  refine bodyPost_ret (results_cell_row rfl _ _ _ _ _ _ _ rfl t1 Tryz.underlying26 rfl (by kernel_rfl)) rfl ⟨⟨some ⟨w.heap.size + 1, 0, none⟩, 2, rfl, ?_⟩, below_al2 _ _ _⟩
  refine .inr ⟨w.heap.size + 1, 0, rfl, by simp, ?_⟩
  intro j hj i v hi
  have hj2 : j < 2 := hj
  simp only [World.cell?, t2]
  have hj3 : j = 0 ∨ j = 1 := by omega
  rcases hj3 with rfl | rfl
  · match i, hi with
    | 0, hi => simp [ex, encR] at hi; subst hi; rfl
    | 1, hi => simp [ex, encR] at hi; subst hi; rfl
    | 2, hi => simp [ex, encR] at hi; subst hi; rfl
    | 3, hi => simp [ex, encR] at hi; subst hi; rfl
    | i + 4, hi => simp [ex, encR] at hi
  · match i, hi with
    | 0, hi => simp [ex, encR] at hi; subst hi; rfl
    | 1, hi => simp [ex, encR] at hi; subst hi; rfl
    | 2, hi => simp [ex, encR] at hi; subst hi; rfl
    | 3, hi => simp [ex, encR] at hi; subst hi; rfl
    | i + 4, hi => simp [ex, encR] at hi

theorem Tryz.eqRatio (a b : ByteArray) (w : World) : (binOp .eql 44 (.agg #[.string a, .string b]) (.agg #[.string a, .string b])).run Tryz.prog w = .ok (.bool true) w := by
  obtain ⟨d, hd⟩ : ∃ d : Nat, (10000 : Nat) = d + 1 + 1 + 1 := ⟨9997, rfl⟩
  rw [run_eql_struct, hd, run_equalIn_agg w (d + 1 + 1) 44 _ _ (by kernel_rfl) (by kernel_rfl)]
  clear hd
  simp only [Program.fieldsOf, Tryz.underlying44]
  have u9 := Tryz.underlying9
  have a9 := Tryz.isAgg9
  have z9 := Tryz.sizeOf9
  go_simp

theorem slAt_own {w : World} {base : Nat} {v : Value} {l : List Int} (h : OwnsInts w base v l) : ∃ A c, v = .slice A l.length c ∧ SlAt w A l := by
  obtain ⟨A, c, h1, h2, _⟩ := slAt_owns h
  exact ⟨A, c, h1, h2⟩
theorem pcsAt_own {w : World} {base : Nat} {v : Value} {l : List Tf.Pc} (h : OwnsPcs w base v l) : ∃ A c, v = .slice A l.length c ∧ PcsAt w A l := by
  have h' := h
  unfold OwnsPcs at h'
  rcases h'.2 with ⟨h1, h2⟩ | ⟨g, cap, cur, h1, h2, h3, _⟩
  · exact ⟨none, 0, by rw [h1, h2], .inl (List.eq_nil_of_length_eq_zero h2)⟩
  · refine ⟨some ⟨g, 0, none⟩, cap, h1, .inr ⟨g, rfl, (Array.getElem?_eq_some_iff.1 h3).1, ?_⟩⟩
    intro j p hj i x hi
    rw [h1] at h'
    have hjl := (List.getElem?_eq_some_iff.1 hj).1
    have hi3 : i < 3 := by
      have := (List.getElem?_eq_some_iff.1 hi).1
      simpa [cellsP] using this
    have hc := h'.cellAt (j * 3 + i) (by omega)
    have hg : (flatP l)[j * 3 + i]? = some x := by
      obtain ⟨l1, l2, rfl, hl1⟩ : ∃ l1 l2, l = l1 ++ p :: l2 ∧ l1.length = j := by
        have := List.getElem?_eq_some_iff.1 hj
        exact ⟨l.take j, l.drop (j + 1), by rw [← this.2, List.getElem_cons_drop hjl, List.take_append_drop], by simp; omega⟩
      subst hl1
      rw [flatP_append, List.getElem?_append_right (by rw [flatP_length]; omega), flatP_length]
      have e : flatP (p :: l2) = cellsP p ++ flatP l2 := rfl
      rw [e, show l1.length * 3 + i - l1.length * 3 = i by omega, List.getElem?_append_left (by simp [cellsP]; omega)]
      exact hi
    rw [hg] at hc
    exact hc
end Go.Proofs.YtbenflnpnohcjaaGreatDoor

/- The contract of number.compare. -/
import Derived.Test.YtbenflnpnohcjaaGreatDoorN5
import Derived.Test.YtbenflnpnohcjaaGreatDoorT9
namespace Go.Proofs.YtbenflnpnohcjaaGreatDoor
open Go.RowKit Go.Shelf

attribute [local go_sem] Oper.semAt_some

theorem cmp_stop (l m : List Int) {n : Nat} : ∀ (k : Nat) (h : k ≤ n) (pre : List (Fin n)) (q : Fin n), pre ++ [q] <+: backFrom n k h → (∀ p ∈ pre, l.getD p.val 0 = m.getD p.val 0) → l.getD q.val 0 ≠ m.getD q.val 0 → Nm.cmpFrom l m k = Nm.sgn (l.getD q.val 0) (m.getD q.val 0)
  | 0, _, pre, q, hp, _, _ => by simp [backFrom] at hp
  | k + 1, h, [], q, hp, _, hq => by
    obtain ⟨t, ht⟩ := hp
    simp only [backFrom, List.nil_append, List.cons_append, List.cons.injEq] at ht
    rw [ht.1] at hq ⊢
    simp only [Nm.cmpFrom]
    rw [if_neg hq]
  | k + 1, h, p :: pre, q, hp, he, hq => by
    obtain ⟨t, ht⟩ := hp
    simp only [backFrom, List.cons_append, List.cons.injEq] at ht
    have h1 := he p (by simp)
    rw [ht.1] at h1
    simp only [Nm.cmpFrom]
    rw [if_pos h1]
    exact cmp_stop l m k _ pre q ⟨t, by simpa using ht.2⟩ (fun r hr => he r (by simp [hr])) hq
theorem cmp_done (l m : List Int) {n : Nat} : ∀ (k : Nat) (h : k ≤ n), (∀ p ∈ backFrom n k h, l.getD p.val 0 = m.getD p.val 0) → Nm.cmpFrom l m k = 0
  | 0, _, _ => rfl
  | k + 1, h, he => by
    have h1 := he ⟨k, h⟩ (by simp [backFrom])
    simp only [Nm.cmpFrom]
    rw [if_pos h1]
    exact cmp_done l m k (Nat.le_of_lt h) (fun p hp => he p (by simp [backFrom, hp]))

set_option maxRecDepth 100000 in
set_option maxHeartbeats 2000000 in
theorem compareL_any (A A' : Option Addr) (c c' : Nat) (l m : List Int) (w : World) (h1 : SlAt w A l) (h2 : SlAt w A' m) (hl : l.length ≤ 1000000) (_hm : m.length ≤ 1000000) :
    Calls Tryz.prog 98 #[.slice A l.length c, .slice A' m.length c'] w fun e w' => e = .returned (.int .i64 (Nm.cmpL l m)) ∧ Below w.heap.size w w' := by
  by_cases hne : l.length = m.length
  · rw [hne]
    have HSP := Lib.hid (fun W => backward_any A m.length c W)
    have HNE := Lib.hid hne
    clear hne
    refine wideC' (n := 10) ?_
    refine callsIn_of_wp_marks Tryz.func98 rfl trivial ?_ rfl
    simp only [Tryz.ntmps98, List.size_toArray, List.length_cons, List.length_nil, Nat.reduceAdd, Nat.reduceSub, Array.replicate_succ, Array.replicate_zero, List.push_toArray, List.append_toArray, List.nil_append, List.cons_append]
    gi_wp2_with (refine ⟨trivial, ?_⟩; gi_at_call 114; refine (wideC (HSP.out _)).mono ?_; rintro e w1 ⟨rfl, rfl⟩)
    obtain ⟨W0, hW0⟩ : ∃ W0, (((w.alloc (.cells #[.slice A' m.length c'] 112)).alloc (.cells #[.int .i64 0] 3)).alloc (.cells #[.slice A m.length c] 112)) = W0 := ⟨_, rfl⟩
    rw [hW0]
    have hsz : W0.heap.size = w.heap.size + 3 := by rw [← hW0]; simp
    have hB0 : Below w.heap.size w W0 := by
      rw [← hW0]
      exact (((Below.refl _ w).alloc (Nat.le_refl _) _).alloc (by simp) _).alloc (by simp; omega) _
    have y1 : Boxed W0 w.heap.size 112 (.slice A' m.length c') := by rw [← hW0]; exact ((Boxed.new w 112 _).alloc _).alloc _
    have y2 : Boxed W0 (w.heap.size + 1) 3 (.int .i64 0) := by
      rw [← hW0]
      have := Boxed.new (w.alloc (.cells #[.slice A' m.length c'] 112)) 3 (.int .i64 0)
      rw [World.size_alloc] at this
      exact this.alloc _
    have y3 : Boxed W0 (w.heap.size + 1 + 1) 112 (.slice A l.length c) := by
      rw [← hW0, HNE.out]
      have := Boxed.new ((w.alloc (.cells #[.slice A' m.length c'] 112)).alloc (.cells #[.int .i64 0] 3)) 112 (.slice A m.length c)
      rw [World.size_alloc, World.size_alloc] at this
      exact this
    have hlt : ∀ ad, A = some ad → l ≠ [] → ad.block < w.heap.size := fun ad had hne => by
      rcases h1 with h | ⟨b', h1, h2⟩
      · exact absurd h hne
      · rw [had] at h1; cases h1; exact h2.1
    clear hW0 HSP
    refine wpIn_rangeFunc_ownH rfl (by omega) (gf := 146) (lb := #[.pointer (some ⟨w.heap.size + 1 + 1, 0, none⟩)]) rfl trivial (enters_of Tryz.func146 (by kernel_rfl) rfl)
      (backward1_stops (fun k t => k = w.heap.size + 1) 9 (by omega) A c l hl (w.heap.size + 1 + 1) W0 y3 (h1.below hB0) (by omega)
        (fun ad had hne => by have := hlt ad had hne; intro t; omega))
      kpS_t kpS_b (Below.refl _ _) (fun _ => rfl)
      (fun pre W => Boxed W w.heap.size 112 (.slice A' m.length c') ∧ Boxed W (w.heap.size + 1) 3 (.int .i64 0) ∧ Below w.heap.size w W ∧ ∀ q ∈ pre, gd l q.val = gd m q.val)
      (fun cc pre W => cc = .ret ∧ Below w.heap.size w W ∧ ∃ pre0 q, pre = pre0 ++ [q] ∧ (∀ q ∈ pre0, gd l q.val = gd m q.val) ∧ gd l q.val ≠ gd m q.val ∧ Boxed W (w.heap.size + 1) 3 (.int .i64 (Nm.sgn (gd l q.val) (gd m q.val))))
      (OwnFrom.and (Own.from (boxed_own _ _ _) _) (OwnFrom.and (Own.from (boxed_own _ _ _) _) (OwnFrom.and (ownFrom_below (Nat.le_refl _) (by omega)) (fun _ _ _ _ hs _ _ => hs))))
      (fun cc s X Y row hs hg hr => by
        obtain ⟨e1, e2, pre0, q, e3, e4, e5, e6⟩ := hs
        exact ⟨e1, ownFrom_below (β := Unit) (Nat.le_refl _) (show w.heap.size ≤ W0.heap.size by omega) () X Y row e2 hg hr, pre0, q, e3, e4, e5, boxed_own _ _ (fun _ : Unit => _) () X Y row e6 hg (fun r e => (hr r e).2)⟩)
      ⟨y1, y2, hB0, by simp⟩
      (fun p a' W => a' = { tmps := #[.slice A m.length c, .slice A' m.length c', undef, .pointer (some ⟨w.heap.size, 0, none⟩), .pointer (some ⟨w.heap.size + 1, 0, none⟩), .int .i64 (p.val : Nat), .int .i64 (gd l p.val), .slice A m.length c, .int .i64 m.length, .slice A' m.length c', .int .i64 m.length, .bool false, undef, undef, undef, undef, undef, .slice A m.length c, .func (.func 146) #[] #[.pointer (some ⟨w.heap.size + 1 + 1, 0, none⟩)], .int .i64 (p.val : Nat), .int .i64 (gd l p.val), undef, undef, undef, undef, undef, undef, undef, undef, undef, undef, undef, undef], defers := [] })
      (fun p a' => fun _ _ _ _ hs _ _ => hs)
      ?assign ?body ?done ?stop
    case assign =>
      rintro ll pre p W K ⟨x1, x2, hB, he⟩ hK
      unfold encB
      gi_wp2
      exact hK _ _ (KeepsFrom.refl _ _) (KpS.refl _ W) ⟨x1, x2, hB, he⟩ rfl
    case body =>
      rintro ll pre p a' W hl hr ⟨x1, x2, hB, he⟩ rfl hlen
      have c1 := x1.cell
      have c2 := x2.cell
      have f2 := x2.frozen
      obtain ⟨b, rfl, hb⟩ : ∃ b, A' = some ⟨b, 0, none⟩ ∧ IntsAt W b m := by
        rcases h2.below (hB.mono (Nat.le_refl _)) with h | h
        · have h3 := p.isLt
          have h4 := HNE.out
          rw [h, List.length_nil] at h4
          omega
        · exact h
      have hpl : p.val < m.length := by have := p.isLt; have := HNE.out; omega
      have hcell : W.cell? ⟨b, p.val, none⟩ = some (.int .i64 (gd m p.val)) := hb.2 p.val hpl
      have hpz : ((p.val : Nat) : Int) < (m.length : Int) := by omega
      have hcmp := fun W => Tryz.cmp_Compare_int (gd l p.val) (gd m p.val) W
      have HE := Lib.hid he
      have hss : Lib.compareInt (gd l p.val) (gd m p.val) = Nm.sgn (gd l p.val) (gd m p.val) := rfl
      have HSS := Lib.hid hss
      have HX := Lib.hid (And.intro x1 (And.intro x2 hB))
      clear he hb hss x1 x2 hB
      by_cases heq : gd l p.val = gd m p.val
      · have HQ := Lib.hid heq
        rw [heq]
        clear heq
        gi_wp2
        refine ⟨KeepsFrom.refl _ _, KpS.refl _ W, HX.out.1, HX.out.2.1, HX.out.2.2, ?_⟩
        intro q hq
        rcases List.mem_append.1 hq with h | h
        · exact HE.out q h
        · have : q = p := by simpa using h
          rw [this]; exact HQ.out
      · have hbq : (gd l p.val == gd m p.val) = false := by simp [heq]
        gi_wp2_with (refine ⟨trivial, ?_⟩; gi_at_call 130; refine (wideC (hcmp _)).mono ?_; rintro e w1 ⟨rfl, rfl⟩)
        refine ⟨(KeepsOthers.setCell _ _ _).from _, rfl, HX.out.2.2.setCell (p := ⟨w.heap.size + 1, 0, none⟩) (by simp) _, pre, p, rfl, HE.out, heq, ?_⟩
        rw [← HSS.out]
        exact HX.out.2.1.set _
    case done =>
      rintro D ys W hD rfl ⟨x1, x2, hB, he⟩ hK
      have c2 := x2.cell
      have f2 := x2.frozen
      have hfin : Nm.cmpL l m = 0 := by
        unfold Nm.cmpL
        rw [if_pos HNE.out]
        exact cmp_done l m _ (Nat.le_refl _) he
      have x3 := x2.set (.int .i64 0)
      have hK3 : (W.setCell ⟨w.heap.size + 1, 0, none⟩ (.int .i64 0)).heap[D]? = some (.deferred (some [])) := by
        rw [heap_set_other _ _ _ _ (by omega)]; exact hK
      have c3 := x3.cell
      have hBf : Below w.heap.size w (W.setCell ⟨w.heap.size + 1, 0, none⟩ (.int .i64 0)) := hB.setCell (p := ⟨w.heap.size + 1, 0, none⟩) (by simp) _
      clear he
      gi_wp2
      refine ⟨by simp, .inl ⟨_, _, rfl, run_takeDeferred hK3, ?_⟩⟩
      refine ⟨.int .i64 0, ?_, by rw [hfin], hBf.trans (belowK_b (w := w) (Nat.le_refl _) _ D _ _ (by omega) hK3 rfl rfl)⟩
      have c4 := (x3.kept (grownBy_putObj' _ D (.deferred none)) (by simp; omega)).cell
      simp [results, Tryz.results98, go_sem, c4]
    case stop =>
      rintro D cc pre W hD hpre ⟨rfl, hB, pre0, q, rfl, he, hq, hx⟩ hK
      have c2 := hx.cell
      have hfin : Nm.cmpL l m = Nm.sgn (gd l q.val) (gd m q.val) := by
        unfold Nm.cmpL
        rw [if_pos HNE.out]
        exact cmp_stop l m _ (Nat.le_refl _) pre0 q hpre he hq
      clear he
      gi_wp2
      refine ⟨by simp, .inl ⟨_, _, rfl, run_takeDeferred hK, ?_⟩⟩
      refine ⟨.int .i64 (Nm.sgn (gd l q.val) (gd m q.val)), ?_, by rw [hfin], hB.trans (belowK_b (w := w) (Nat.le_refl _) _ D _ _ (by omega) hK rfl rfl)⟩
      have c4 := (hx.kept (grownBy_putObj' _ D (.deferred none)) (by simp; omega)).cell
      simp [results, Tryz.results98, go_sem, c4]
  · have hz : ¬ (l.length : Int) = (m.length : Int) := by omega
    have hc := fun W => Tryz.cmp_Compare_int l.length m.length W
    go_enter Tryz.func98, Tryz.ntmps98
    go_wp2_with (go_at_call 130; refine (hc _).mono ?_; rintro e w1 ⟨rfl, rfl⟩)
    have hfin : Nm.cmpL l m = Lib.compareInt l.length m.length := by
      unfold Nm.cmpL Nm.sgn Lib.compareInt
      rw [if_neg hne]
    exact bodyPost_ret (v := .int .i64 (Lib.compareInt l.length m.length)) (by simp [results, Tryz.results98, go_sem]) rfl ⟨by rw [hfin], ((Below.refl _ w).alloc (Nat.le_refl _) _).alloc (by simp) _⟩
end Go.Proofs.YtbenflnpnohcjaaGreatDoor

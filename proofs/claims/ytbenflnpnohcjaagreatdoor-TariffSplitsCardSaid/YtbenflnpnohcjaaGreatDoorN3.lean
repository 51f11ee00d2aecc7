/- Contracts of package integer's numbers: plus, minus, by, one. -/
import Derived.Test.YtbenflnpnohcjaaGreatDoorN2
namespace Go.Proofs.YtbenflnpnohcjaaGreatDoor
open Go.RowKit Go.Shelf

/-- A number in memory: its groups. -/
def NumV (w : World) (v : Value) (N : Nat) : Prop := ∃ A c, v = .slice A (Nm.grp 10000 N).length c ∧ SlAt w A (Nm.grp 10000 N) ∧ (Nm.grp 10000 N).length ≤ c ∧ c ≤ 9223372036854775807 ∧ (A = none → c = 0)
theorem NumV.below {w w' : World} {v : Value} {N : Nat} (h : NumV w v N) (hb : Below w.heap.size w w') : NumV w' v N := by
  obtain ⟨A, c, h1, h2, h3⟩ := h
  exact ⟨A, c, h1, h2.below hb, h3⟩

theorem slAt_owns {w : World} {base : Nat} {v : Value} {l : List Int} (h : OwnsInts w base v l) : ∃ A c, v = .slice A l.length c ∧ SlAt w A l ∧ l.length ≤ c ∧ c ≤ 9223372036854775807 ∧ (A = none → c = 0) := by
  have h' := h
  unfold OwnsInts at h'
  rcases h'.2 with ⟨h1, h2⟩ | ⟨g, cap, cur, h1, h2, h3, h4, h5, h6⟩
  · refine ⟨none, 0, ?_, ?_, ?_, by omega, fun _ => rfl⟩
    · rw [h1]; congr 1; omega
    · left; exact List.eq_nil_of_length_eq_zero (by omega)
    · omega
  · refine ⟨some ⟨g, 0, none⟩, cap, h1, ?_, h4, ?_, fun e => by cases e⟩
    · refine .inr ⟨g, rfl, (Array.getElem?_eq_some_iff.1 h3).1, fun j hj => ?_⟩
      rw [h1] at h'
      have := h'.cellAt j (by omega)
      rw [this, List.getElem?_map, List.getElem?_eq_getElem hj, List.getD_eq_getElem?_getD, List.getElem?_eq_getElem hj]
      rfl
    · unfold maxLen at h5; omega

theorem grp_range (N i : Nat) : 0 ≤ (Nm.grp 10000 N).getD i 0 ∧ (Nm.grp 10000 N).getD i 0 ≤ 9999 := by
  have := Nm.getD_inR (Nm.inR_grp (b := 10000) (by omega) N) i
  omega
theorem getD_len (l : List Int) {n : Nat} (h : l.length ≤ n) : l.getD n 0 = 0 := by rw [List.getD_eq_getElem?_getD, List.getElem?_eq_none h, Option.getD_none]

/-- What fold and trimmed make, as a number. -/
theorem numV_trim {w : World} {base : Nat} {v : Value} {l : List Int} {N : Nat} (h : OwnsInts w base v l) (ht : Nm.trim l = Nm.grp 10000 N) (hl : l.length ≤ 1000000) :
    Calls Tryz.prog 122 #[v] w fun e w' => (∃ v', e = .returned v' ∧ NumV w' v' N ∧ ∀ b, v'.ownBlock = some b → base ≤ b) ∧ w = w' := by
  obtain ⟨A, c, rfl, h1, h2, h3⟩ := slAt_owns h
  have hbase : ∀ b, (Value.slice A l.length c).ownBlock = some b → base ≤ b := fun b hb => ((show w.ownsRow base 3 1 _ _ _ from h).lt b hb).1
  refine (trimmed_any A c l w h1 hl h2 h3.1).mono ?_
  rintro e w' ⟨rfl, rfl⟩
  have hle : (Nm.trim l).length ≤ l.length ∧ ∃ m, l = Nm.trim l ++ m := by
    clear h h1 h2 ht hl hbase
    induction l with
    | nil => exact ⟨by simp [Nm.trim], [], by simp [Nm.trim]⟩
    | cons x l ih =>
      obtain ⟨i1, m, i2⟩ := ih
      simp only [Nm.trim]
      split
      · exact ⟨by simp, x :: l, by simp⟩
      · exact ⟨by simp; omega, m, by rw [List.cons_append, ← i2]⟩
  obtain ⟨hle, m, hm⟩ := hle
  refine ⟨⟨_, rfl, ⟨A, c, by rw [ht], ?_, by rw [← ht]; omega, h3⟩, fun b hb => hbase b (by cases A with
    | none => cases hb
    | some a => exact hb)⟩, rfl⟩
  rw [← ht]
  exact SlAt.pre (m := m) (by rw [← hm]; exact h1)

set_option maxRecDepth 100000 in
theorem plus_any (M N : Nat) (v u : Value) (w : World) (hv : NumV w v M) (hu : NumV w u N) (lM : (Nm.grp 10000 M).length ≤ 10000) (lN : (Nm.grp 10000 N).length ≤ 10000) :
    Calls Tryz.prog 95 #[v, u] w fun e w' => (∃ r, e = .returned r ∧ NumV w' r (M + N) ∧ ∀ b, r.ownBlock = some b → w.heap.size ≤ b) ∧ Below w.heap.size w w' := by
  obtain ⟨A, c, rfl, h1, h2, h3, _⟩ := hv
  obtain ⟨A', c', rfl, k1, k2, k3, _⟩ := hu
  have hb1 : Below w.heap.size w ((w.alloc (.cells #[.slice A (Nm.grp 10000 M).length c] 112)).alloc (.cells #[.slice A' (Nm.grp 10000 N).length c'] 112)) := ((Below.refl _ w).alloc (Nat.le_refl _) _).alloc (by simp) _
  have b1 : BoxSl ((w.alloc (.cells #[.slice A (Nm.grp 10000 M).length c] 112)).alloc (.cells #[.slice A' (Nm.grp 10000 N).length c'] 112)) w.heap.size A (Nm.grp 10000 M) c := ⟨by simp [go_sem], h1.below hb1⟩
  have b2 : BoxSl ((w.alloc (.cells #[.slice A (Nm.grp 10000 M).length c] 112)).alloc (.cells #[.slice A' (Nm.grp 10000 N).length c'] 112)) (w.heap.size + 1) A' (Nm.grp 10000 N) c' := ⟨by simp [go_sem], k1.below hb1⟩
  have hf := fold_any (max (Nm.grp 10000 M).length (Nm.grp 10000 N).length) (by omega) 127 #[.pointer (some ⟨w.heap.size, 0, none⟩), .pointer (some ⟨w.heap.size + 1, 0, none⟩)] (fun i => (Nm.grp 10000 M).getD i 0 + (Nm.grp 10000 N).getD i 0) _ (enters_of Tryz.func127 (by kernel_rfl) rfl)
    (fun W i _ hb => plus1_any w.heap.size (w.heap.size + 1) A A' _ _ c c' i W (b1.below hb) (b2.below hb) (grp_range M i) (grp_range N i))
    (fun i => by have := grp_range M i; have := grp_range N i; omega)
    (by rw [getD_len _ (by omega), getD_len _ (by omega)]; rfl)
    (Nm.cy_nonneg (by rw [Nm.sumD_add, Nm.sumD_list _ _ (by omega), Nm.sumD_list _ _ (by omega), Nm.gv_grp (by omega), Nm.gv_grp (by omega)]; omega))
  have hlen : (Nm.outL (fun i => (Nm.grp 10000 M).getD i 0 + (Nm.grp 10000 N).getD i 0) (max (Nm.grp 10000 M).length (Nm.grp 10000 N).length)).length ≤ 1000000 := by
    unfold Nm.outL
    rw [List.length_append, Nm.digs_length]
    split <;> simp <;> omega
  have htr := Nm.plus_grp M N
  generalize Nm.outL (fun i => (Nm.grp 10000 M).getD i 0 + (Nm.grp 10000 N).getD i 0) (max (Nm.grp 10000 M).length (Nm.grp 10000 N).length) = out at *
  have HF := Lib.hid hf
  have HT := Lib.hid (And.intro htr hlen)
  generalize (Nm.grp 10000 M).length = lm at *
  generalize (Nm.grp 10000 N).length = ln at *
  have HX := Lib.hid hb1
  have hmx : max (lm : Int) (ln : Int) = ((max lm ln : Nat) : Int) := by omega
  clear hf htr hlen b1 b2 h1 k1 hb1
  go_enter Tryz.func95, Tryz.ntmps95
  go_wp2_with (first | (go_at_call 126; refine HF.out.mono ?_; rintro e w1 ⟨⟨v1, rfl, ho⟩, hb2⟩; have hn := numV_trim (N := M + N) ho HT.out.1 HT.out.2; have HN := Lib.hid hn; have HO := Lib.hid ho; clear hn ho) | (go_at_call 122; refine HN.out.mono ?_; rintro e w2 ⟨⟨v2, rfl, hr⟩, rfl⟩))
  go_ret
  exact ⟨⟨_, rfl, hr.1, fun b hb => Nat.le_trans HX.out.size (hr.2 b hb)⟩, HX.out.trans (hb2.mono (by simp; omega))⟩
end Go.Proofs.YtbenflnpnohcjaaGreatDoor

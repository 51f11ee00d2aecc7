/- The contract of tariff.Midnights. -/
import Derived.Test.YtbenflnpnohcjaaGreatDoorT6
import Derived.Maps.AppendAt
namespace Go.Proofs.YtbenflnpnohcjaaGreatDoor
open Go.RowKit Go.Shelf

namespace Tf
/-- The midnights from one of them on. -/
def midM (a b t : Int) : List Int := mids b ((b - a).toNat + 1) t
theorem midM_step {a b t : Int} (ha : a ≤ t) (h : t < b) : midM a b t = t :: midM a b (t + 86400) := by
  unfold midM
  have e : mids b ((b - a).toNat + 1) t = t :: mids b (b - a).toNat (t + 86400) := by simp only [mids]; rw [if_pos h]
  rw [e, mids_more b (b - a).toNat ((b - a).toNat + 1) (t + 86400) (by omega) (by omega)]
theorem midM_nil {a b t : Int} (h : ¬ t < b) : midM a b t = [] := by
  unfold midM
  simp only [mids]; rw [if_neg h]
theorem midM_first (z a b : Int) : midnights z a b = midM a b (firstMid z a) := rfl
end Tf

/-- A slice value that owns a list of ints. -/
def OwnsInts (w : World) (base : Nat) (v : Value) (l : List Int) : Prop := w.ownsRow base 3 1 v l.length (l.map (Value.int .i64))

set_option maxHeartbeats 1000000 in
theorem midnights_any (z a b : Int) (w : World) :
    Calls Tryz.prog 32 #[.int .i64 z, .agg #[.int .i64 a, .int .i64 b]] w fun e w' =>
      (∃ v, e = .returned (.tuple #[v, .int .i64 (if (zoneB z && spellB a b) = true then 0 else 370)]) ∧ OwnsInts w' w.heap.size v (if (zoneB z && spellB a b) = true then Tf.midnights z a b else [])) ∧ Below w.heap.size w w' := by
  have hb1 : Below w.heap.size w (w.alloc (.cells #[.int .i64 a, .int .i64 b] 28)) := (Below.refl _ w).alloc (Nat.le_refl _) _
  cases h1 : zoneB z with
  | false =>
    rw [if_neg (by simp), if_neg (by simp)]
    go_enter Tryz.func32, Tryz.ntmps32
    go_wp2_with (go_at_call 51; refine (isZone_any _ _).mono ?_; rintro e w' ⟨rfl, rfl⟩)
    go_ret2
    exact ⟨⟨_, rfl, World.ownsRow_nil _ _ _ _⟩, hb1⟩
  | true =>
    cases h2 : spellB a b with
    | false =>
      rw [if_neg (by simp), if_neg (by simp)]
      go_enter Tryz.func32, Tryz.ntmps32
      go_wp2_with (first | (go_at_call 51; refine (isZone_any _ _).mono ?_; rintro e w' ⟨rfl, rfl⟩) | (go_at_call 63; refine (isSpell_any _ _ _).mono ?_; rintro e w' ⟨rfl, hb3⟩))
      go_ret2
      exact ⟨⟨_, rfl, World.ownsRow_nil _ _ _ _⟩, hb1.trans (hb3.mono (by simp))⟩
    | true =>
      rw [if_pos (by simp), if_pos (by simp)]
      have hz := inB_iff.1 h1
      have hs := h2
      simp only [spellB, Bool.and_eq_true, decide_eq_true_eq, inB_iff] at hs
      obtain ⟨ha, hab, hb⟩ := hs
      have hsr := Tf.loc_range z a
      obtain ⟨f1, f2, f3⟩ := Tf.firstMid_spec z a
      have hfd : Tf.firstMid z a = a + (86400 - Tf.loc z a % 86400) % 86400 := rfl
      have hloc := fun W0 => local_any z a W0 (by omega) (by omega) (by omega) (by omega)
      rw [Tf.midM_first]
      generalize Tf.loc z a = s at *
      generalize Tf.firstMid z a = t0 at *
      have HLOC := Lib.hid hloc
      have hfd' : a + -(s % 86400) % 86400 = t0 := by omega
      have HT0 := Lib.hid hfd'
      clear hloc hfd hfd' f3
      obtain ⟨i0, hi, hz0, hz1, hz2⟩ := info_parts Tryz.info3
      go_enter Tryz.func32, Tryz.ntmps32
      go_wp2_with (first | (go_at_call 51; refine (isZone_any _ _).mono ?_; rintro e w' ⟨rfl, rfl⟩) | (go_at_call 63; refine (isSpell_any _ _ _).mono ?_; rintro e wv ⟨rfl, hb3⟩; obtain ⟨hc1, hf1⟩ := bcell hb3; have hzz := hb3.size; simp only [World.size_alloc] at hzz) | (go_at_call 53; refine (HLOC.out _).mono ?_; rintro e w' ⟨rfl, rfl⟩))
      have c1 : wv.cell? ⟨w.heap.size, 1, none⟩ = some (.int .i64 b) := by rw [hc1 w.heap.size 1 (by simp)]; simp [go_sem]
      clear hc1 hf1
      have hb3' : Below w.heap.size w wv := hb1.trans (hb3.mono (by simp))
      rw [HT0.out, show (86400 - s % 86400) % 86400 = -(s % 86400) % 86400 by omega]
      go_loopw [6, 8] (fun v t wr => ∃ (pre : List Int) (t1 : Int), t = .int .i64 t1 ∧ t1 = t0 + 86400 * pre.length ∧ t1 ≤ 10100000 ∧ Aside (Tf.midM a b t0 = pre ++ Tf.midM a b t1) ∧ wr.ownsRow (w.heap.size + 1) 3 1 v pre.length (pre.map (Value.int .i64)) ∧ Aside (Below w.heap.size w wr) ∧ Aside (w.heap.size < wr.heap.size) ∧ Aside (wr.cell? ⟨w.heap.size, 1, none⟩ = some (.int .i64 b))) (fun _ t _ => (10100000 - intOf t).toNat)
      case atStart =>
        exact ⟨[], t0, rfl, by simp, by omega, (List.nil_append _).symm, World.ownsRow_nil _ _ _ _, hb3', by show _ < _; omega, c1⟩
      case round =>
        obtain ⟨pre, t1, rfl, ht, ht2, hpre, hown, BW, HL, HC⟩ := hrel
        have hc := HC.out
        have HTT := Lib.hid ht
        have hge : t0 ≤ t1 := by omega
        have hpl : pre.length ≤ 200 := by omega
        clear ht
        by_cases hlt : t1 < b
        · have hsz := HL.out
          have hstep := Tf.midM_step (a := a) (b := b) (t := t1) (by omega) hlt
          have HST := Lib.hid hstep
          clear hstep
          go_wp2_with (at_builtin; refine wpList_append_own _ rfl _ _ 36 rfl (w.heap.size + 1) 3 i0 (.int .i64 0) 1 8 Tryz.underlying36 hi hz0 hz1 hz2 rfl (by decide) _ _ _ rfl (hown.alloc _) ⟨wr.heap.size, 0, none⟩ 1 1 [.int .i64 t1] rfl rfl ?c1 ?c2 ?c3 ?c4 ?c5 ?_; rotate_left 5; intro v' w1 hown' hgrow _)
          case c1 => exact cell_one_new _ _ _
          case c2 => intro u hu; simp at hu; subst hu; rfl
          case c3 => unfold maxLen; omega
          case c4 => omega
          case c5 => simp; omega
          have hbn : Below (w.heap.size + 1) wr w1 := ((Below.refl _ wr).alloc (by omega) _).grown hgrow (by simp; omega) (fun k hk => (hown.lt k hk).1)
          refine ⟨⟨pre ++ [t1], t1 + 86400, rfl, ?_, by omega, ?_, ?_, ?_, ?_, ?_⟩, by simp [intOf]; omega⟩
          · have := HTT.out; simp; omega
          · show _ = _; rw [hpre.out, HST.out]; simp
          · simpa using hown'
          · exact BW.out.trans (hbn.mono (by omega))
          · show _ < _; have := hbn.size; omega
          · exact (hbn.cell (p := ⟨w.heap.size, 1, none⟩) (by simp only; omega)).trans hc
        · have hp := hpre.out
          rw [Tf.midM_nil hlt, List.append_nil] at hp
          have HP := Lib.hid hp
          clear hp hpre
          go_wp2
          go_ret2
          refine ⟨⟨_, rfl, ?_⟩, BW.out⟩
          unfold OwnsInts
          rw [HP.out]
          exact ⟨hown.1, by
            rcases hown.2 with h | ⟨g, cap, cur, h1, h2, h3⟩
            · exact .inl h
            · exact .inr ⟨g, cap, cur, h1, by omega, h3⟩⟩
end Go.Proofs.YtbenflnpnohcjaaGreatDoor

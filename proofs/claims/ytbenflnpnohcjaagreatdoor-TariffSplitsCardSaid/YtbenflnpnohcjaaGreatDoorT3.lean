/- The contract of tariff.changes: the borders, ascending, each once, in new memory. -/
import Derived.Test.YtbenflnpnohcjaaGreatDoorT2
import Derived.Test.YtbenflnpnohcjaaGreatDoorTfChg
import Derived.Test.YtbenflnpnohcjaaGreatDoorShelf
import Derived.Test.YtbenflnpnohcjaaGreatDoorRf
import Derived.Lib.OwnBridge
import Derived.Lib.AppendIntMem
import Derived.RangeFuncBox
import Derived.WalkSmall
import Derived.Laws.OwnMore
namespace Go.Proofs.YtbenflnpnohcjaaGreatDoor
open Go.RowKit

/-- A list of ints in memory, from a place on. -/
def IntsAt (w : World) (b : Nat) (l : List Int) : Prop := b < w.heap.size ∧ ∀ j, j < l.length → w.cell? ⟨b, j, none⟩ = some (.int .i64 (l.getD j 0))
theorem IntsAt.below {w w' : World} {b : Nat} {l : List Int} (h : IntsAt w b l) (hb : Below w.heap.size w w') : IntsAt w' b l :=
  ⟨Nat.lt_of_lt_of_le h.1 hb.size, fun j hj => (hb.cell (p := ⟨b, j, none⟩) h.1).trans (h.2 j hj)⟩

theorem Tryz.info3 : (Tryz.prog.info? 3).map (fun i => (i.zero, i.size, i.bytes)) = some (some (.int .i64 0), 1, 8) := by kernel_rfl

/-- An owned row of ints, as the library's contracts want it. -/
theorem holds_of_owns {w : World} {base e n : Nat} {v : Value} {l : List Int} (h : w.ownsRow base e 1 v (n + 1) (l.map (Value.int .i64))) :
    ∃ g cap, v = .slice (some ⟨g, 0, none⟩) (n + 1) cap ∧ base ≤ g ∧ g < w.heap.size ∧ n + 1 ≤ cap ∧ l.length = n + 1 ∧ Go.Sort.Holds (Value.int .i64) w g 0 l.toArray := by
  obtain ⟨g, cap, rfl⟩ := ownsRow_succ h
  have hl : l.length = n + 1 := by have := h.1; simpa using this
  have hlt := h.lt g rfl
  have hcap : n + 1 ≤ cap := by
    rcases h.2 with ⟨h1, _⟩ | ⟨g', cap', cur, he, _, _, h1, _⟩
    · cases h1
    · cases he; exact h1
  refine ⟨g, cap, rfl, hlt.1, hlt.2, hcap, hl, fun j hj => ?_⟩
  have hj' : j < l.length := by simpa using hj
  refine ⟨?_, ?_⟩
  · rw [show (0 : Nat) + j = j by omega, h.cellAt j (by omega)]
    rw [List.getElem?_map, List.getElem?_eq_getElem hj', getElem!_pos l.toArray j hj]
    simp
  · rw [show (0 : Nat) + j = j by omega]
    exact h.frozenAt j

theorem typed_putRow {enc : Int → Value} {w : World} {g off : Nat} {d : Array Int} {t : TypeId} (h : Typed w g t) : Typed (Go.Sort.putRow enc w g off d) g t := by
  obtain ⟨c, f, h1⟩ := h
  refine ⟨Go.Sort.putCells enc off d c, f, ?_⟩
  unfold Go.Sort.putRow Go.Sort.mapBlock
  rw [Array.getElem?_modify, if_pos rfl, h1]
  rfl

/-- slices.Sort over a row of the call's own. -/
theorem sort_own (g cap B : Nat) (zs : List Int) (w : World) (hB : B ≤ g) (hg : g < w.heap.size) (hH : Go.Sort.Holds (Value.int .i64) w g 0 zs.toArray) (hl : zs.length < 1000000) :
    Calls Tryz.prog 105 #[.slice (some ⟨g, 0, none⟩) zs.length cap] w fun e w' => e = .returned (.tuple #[]) ∧ Go.Sort.Holds (Value.int .i64) w' g 0 (zs.mergeSort fun x y => decide (x ≤ y)).toArray ∧ Below B w w' ∧ (∀ t, Typed w g t → Typed w' g t) := by
  refine (Tryz.slices_Sort_int g 0 cap zs w hH hg (by omega)).mono ?_
  rintro e w' ⟨rfl, n, os, rfl⟩
  have hsz : (zs.mergeSort fun x y => decide (x ≤ y)).toArray.size = zs.toArray.size := by simp
  have hH' : Go.Sort.Holds (Value.int .i64) (Go.Sort.ahead w n) g 0 zs.toArray := fun j hj => hH j hj
  have h1 := Go.Sort.holds_putRow (Value.int .i64) (Go.Sort.ahead w n) g 0 zs.toArray (zs.mergeSort fun x y => decide (x ≤ y)).toArray hH' hsz
  have h2 : Below B w (Go.Sort.putRow (Value.int .i64) (Go.Sort.ahead w n) g 0 (zs.mergeSort fun x y => decide (x ≤ y)).toArray) := Lib.below_putRow (Below.refl _ _) hB
  have hlt : g < (Go.Sort.putRow (Value.int .i64) (Go.Sort.ahead w n) g 0 (zs.mergeSort fun x y => decide (x ≤ y)).toArray).heap.size := Nat.lt_of_lt_of_le hg h2.size
  refine ⟨rfl, Go.Sort.holds_grow _ _ os g 0 _ hlt h1, ?_⟩
  have h3' := Lib.below_grow _ (Go.Sort.putRow (Value.int .i64) (Go.Sort.ahead w n) g 0 (zs.mergeSort fun x y => decide (x ≤ y)).toArray) (Nat.le_refl _) 0 os
  have h3 := Lib.below_grow B (Go.Sort.putRow (Value.int .i64) (Go.Sort.ahead w n) g 0 (zs.mergeSort fun x y => decide (x ≤ y)).toArray) (by omega) 0 os
  refine ⟨h2.trans h3, fun t ht => ?_⟩
  exact (typed_putRow (w := Go.Sort.ahead w n) ht).below h3'

/-- slices.Compact over a row of the call's own. -/
theorem compact_own (g cap B : Nat) (zs : List Int) (w : World) (hB : B ≤ g) (hg : g < w.heap.size) (hH : Go.Sort.Holds (Value.int .i64) w g 0 zs.toArray) (hl : zs.length < 1000000) (hc : zs.length ≤ cap) :
    Calls Tryz.prog 106 #[.slice (some ⟨g, 0, none⟩) zs.length cap] w fun e w' => e = .returned (.slice (some ⟨g, 0, none⟩) (Lib.compact zs).length cap) ∧ IntsAt w' g (Lib.compact zs) ∧ Below B w w' ∧ (∀ t, Typed w g t → Typed w' g t) := by
  refine (Tryz.slices_Compact_int g 0 cap zs w hH (by omega) hc).mono ?_
  rintro e w' ⟨rfl, q, rfl⟩
  have hle := Lib.compact_length_le zs
  have hH' : Go.Sort.Holds (Value.int .i64) (Go.Sort.ahead w q) g 0 zs.toArray := fun j hj => hH j hj
  have hsz : (Lib.compact zs ++ List.replicate (zs.length - (Lib.compact zs).length) 0).toArray.size = zs.toArray.size := by simp; omega
  have h1 := Go.Sort.holds_putRow (Value.int .i64) (Go.Sort.ahead w q) g 0 zs.toArray _ hH' hsz
  have h2 : Below B w (Go.Sort.putRow (Value.int .i64) (Go.Sort.ahead w q) g 0 (Lib.compact zs ++ List.replicate (zs.length - (Lib.compact zs).length) 0).toArray) := Lib.below_putRow (Below.refl _ _) hB
  refine ⟨rfl, ⟨Nat.lt_of_lt_of_le hg h2.size, fun j hj => ?_⟩, h2, fun t ht => typed_putRow (w := Go.Sort.ahead w q) ht⟩
  have h3 := (h1 j (by simp; omega)).1
  rw [Nat.zero_add] at h3
  rw [h3, getElem!_pos _ j (by simp; omega)]
  simp only [List.getElem_toArray]
  rw [List.getElem_append_left hj]
  simp [List.getElem?_eq_getElem hj]

set_option maxHeartbeats 1000000 in
theorem changes_any (A : Option Addr) (c : Nat) (x : Tf.Tariff) (hx : x.rates.length ≤ 10) (hw : ∀ r ∈ x.rates, 0 ≤ r.til) (w : World) (hR : RatesAt w A x.rates) :
    Calls Tryz.prog 81 #[.agg #[.slice A x.rates.length c, .int .i64 x.base]] w fun e w' => ∃ g cap, e = .returned (.slice (some ⟨g, 0, none⟩) (Tf.chg x).length cap) ∧ IntsAt w' g (Tf.chg x) ∧ Below w.heap.size w w' ∧ w.heap.size ≤ g ∧ Typed w' g 3 := by
  obtain ⟨i0, hi, hz0, hz1, hz2⟩ := info_parts Tryz.info3
  generalize hN : x.rates.length = N at *
  have HN := Lib.hid hN
  clear hN
  go_enter Tryz.func81, Tryz.ntmps81
  go_wp2
  go_loopw [3, 10] (fun v i wr => ∃ kk : Nat, kk ≤ N ∧ i = .int .i64 kk ∧ wr.ownsRow (w.heap.size + 1) 3 1 v (1 + 2 * kk) ((Tf.chPart (x.rates.take kk)).map (Value.int .i64)) ∧ Aside (Below w.heap.size w wr)) (fun _ i _ => N - (intOf i).toNat)
  case atStart =>
    refine ⟨0, Nat.zero_le _, rfl, ⟨by simp [Tf.chPart], .inr ⟨w.heap.size + 1, 1, #[.int .i64 0], rfl, Nat.le_refl _, ?_, by omega, by unfold maxLen; omega, rfl, by simp [Tf.chPart]⟩⟩, ?_⟩
    · have := World.alloc_heap_new (w.alloc (.cells #[.slice A N c, .int .i64 x.base] 26)) (.cells #[.int .i64 0] 3)
      rwa [World.size_alloc] at this
    · exact ((Below.refl _ w).alloc (Nat.le_refl _) _).alloc (by simp) _
  case round =>
    obtain ⟨kk, hkk, rfl, hown, BW⟩ := hrel
    by_cases hlt : kk < N
    · have hltz : (kk : Int) < (N : Int) := by omega
      have hkl : kk < x.rates.length := by rw [HN.out]; exact hlt
      obtain ⟨b, off, rfl, hb, hcells⟩ : ∃ b off, A = some ⟨b, off, none⟩ ∧ b < w.heap.size ∧ ∀ j, j < x.rates.length → ∀ i v, (encR x.rates[j]!)[i]? = some v → w.cell? ⟨b, off + j * 4 + i, none⟩ = some v := by
        rcases hR with h | h
        · rw [h] at hkl; simp at hkl
        · exact h
      have hc : ∀ i v, (encR x.rates[kk]!)[i]? = some v → wr.cell? ⟨b, off + kk * 4 + i, none⟩ = some v := fun i v hi => (BW.out.cell (p := ⟨b, off + kk * 4 + i, none⟩) hb).trans (hcells kk hkl i v hi)
      have hw1 := hw x.rates[kk]! (by rw [getElem!_pos x.rates kk hkl]; exact List.getElem_mem hkl)
      have HT : Hid (x.rates.take (kk + 1) = x.rates.take kk ++ [x.rates[kk]!]) := by
        have : x.rates.take (kk + 1) = x.rates.take kk ++ [x.rates[kk]!] := by
          rw [List.take_succ_eq_append_getElem hkl, getElem!_pos x.rates kk hkl]
        exact Lib.hid this
      clear hcells hR hw
      generalize x.rates[kk]! = y at hc hw1 HT
      have c0 : wr.cell? ⟨b, off + kk * 4, none⟩ = some (.int .i64 y.days) := hc 0 _ rfl
      have c1 : wr.cell? ⟨b, off + kk * 4 + 1, none⟩ = some (.int .i64 y.frm) := hc 1 _ rfl
      have c2 : wr.cell? ⟨b, off + kk * 4 + 2, none⟩ = some (.int .i64 y.til) := hc 2 _ rfl
      have c3 : wr.cell? ⟨b, off + kk * 4 + 3, none⟩ = some (.int .i64 y.price) := hc 3 _ rfl
      clear hc
      have hsz := BW.out.size
      have hbw : b < wr.heap.size := by omega
      go_wp2_with (at_builtin; refine wpList_append_own _ rfl _ _ 36 rfl (w.heap.size + 1) 3 i0 (.int .i64 0) 1 8 Tryz.underlying36 hi hz0 hz1 hz2 rfl (by decide) _ _ _ rfl ((hown.alloc _).alloc _) ⟨wr.heap.size + 1, 0, none⟩ 2 2 [.int .i64 y.frm, .int .i64 (y.til % 86400)] rfl rfl ?c1 ?c2 ?c3 ?c4 ?c5 ?_; rotate_left 5; intro v' w1 hown' hgrow _)
      case c1 =>
        have := cell_two_new (wr.alloc (.cells #[.int .i64 y.days, .int .i64 y.frm, .int .i64 y.til, .int .i64 y.price] 68)) (.int .i64 y.frm) (.int .i64 (y.til % 86400)) 3
        rwa [World.size_alloc] at this
      case c2 => intro u hu; simp at hu; rcases hu with rfl | rfl <;> rfl
      case c3 => unfold maxLen; omega
      case c4 => omega
      case c5 => simp; omega
      refine ⟨⟨kk + 1, by omega, by go_num, ?_, ?_⟩, by simp [intOf]; omega⟩
      · rw [HT.out, Tf.chPart_snoc]
        have e : 1 + 2 * (kk + 1) = 1 + 2 * kk + 2 := by omega
        rw [e]
        simpa using hown'
      · exact (((BW.out.alloc hsz _).alloc (by simp; omega) _).grown hgrow (by simp; omega) (fun k hk => by have := (hown.lt k hk).1; omega))
    · obtain rfl : kk = N := by omega
      have hown0 : wr.ownsRow (w.heap.size + 1) 3 1 u3 (2 * kk + 1) ((Tf.chPart x.rates).map (Value.int .i64)) := by
        have := hown
        rw [← HN.out, List.take_length, HN.out, Nat.add_comm 1 (2 * kk)] at this
        exact this
      obtain ⟨g, cap, rfl, hg1, hg2, hcap, hlen, hH⟩ := holds_of_owns hown0
      have hty : Typed wr g 3 := by
        rcases hown0.2 with ⟨h1, _⟩ | ⟨g', cap', cur, he, _, h1, _⟩
        · cases h1
        · cases he; exact ⟨_, _, h1⟩
      have hsort := sort_own g cap w.heap.size (Tf.chPart x.rates) wr (by omega) hg2 hH (by omega)
      have hlen2 : (Tf.chSort x).length = 2 * kk + 1 := by rw [Tf.chSort_length, HN.out]; omega
      have hcomp := fun W hW hH => compact_own g cap w.heap.size (Tf.chSort x) W (by omega) hW hH (by omega) (by omega)
      rw [hlen] at hsort
      rw [hlen2] at hcomp
      have BW' := BW.out
      have HCO := Lib.hid hcomp
      clear hown hown0 hlen hlen2 hH hR hw hcomp
      go_wp2_with (first | (go_at_call 105; refine hsort.mono ?_; rintro e w2 ⟨rfl, hH2, hb2, ht2⟩; have hcall2 := HCO.out w2 (by have := hb2.size; omega) hH2) | (go_at_call 106; refine hcall2.mono ?_; rintro e w3 ⟨rfl, hI3, hb3, ht3⟩))
      go_ret
      exact ⟨g, cap, rfl, hI3, (BW'.trans hb2).trans hb3, by omega, ht3 3 (ht2 3 hty)⟩
end Go.Proofs.YtbenflnpnohcjaaGreatDoor

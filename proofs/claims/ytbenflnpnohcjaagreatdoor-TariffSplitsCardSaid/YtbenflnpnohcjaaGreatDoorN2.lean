/- The contract of integer.fold: groups one after the other, with a carry. -/
import Derived.Test.YtbenflnpnohcjaaGreatDoorN1
import Derived.Laws.MakeOwn
import Derived.OwnWalk
namespace Go.Proofs.YtbenflnpnohcjaaGreatDoor
open Go.RowKit Go.Shelf

/-- What a closure of fold computes, in each later world. -/
def FoldFn (g : Nat) (lb : Array Value) (d : Nat → Int) (n : Nat) (w : World) : Prop :=
  ∀ (W : World) (i : Nat), i ≤ n → Below w.heap.size w W → Calls Tryz.prog g (#[.int .i64 i] ++ lb) W fun e w' => e = .returned (.int .i64 (d i)) ∧ Below W.heap.size W w'

theorem ownsRow_bel {w w' : World} {base : Nat} {e : TypeId} {size n : Nat} {v : Value} {xs : List Value} (h : w.ownsRow base e size v n xs) (hb : Below w.heap.size w w') : w'.ownsRow base e size v n xs :=
  h.kept (row := none) (grown_of_below hb none) (by cases v.ownBlock <;> simp)

set_option maxRecDepth 100000 in
set_option maxHeartbeats 1000000 in
theorem fold_any (n : Nat) (hn : n ≤ 100000) (g : Nat) (lb : Array Value) (d : Nat → Int) (w : World) (eg : ∀ args w, (callFunc g args).run Tryz.prog w = .ok (.enter g args) w) (hp : FoldFn g lb d n w)
    (hd : ∀ i, -9999 ≤ d i ∧ d i ≤ 99980001) (hdn : d n = 0) (hc : 0 ≤ Nm.cy d n) :
    Calls Tryz.prog 126 #[.int .i64 n, .int .i64 0, .func (.func g) #[] lb] w fun e w' => (∃ v, e = .returned v ∧ OwnsInts w' w.heap.size v (Nm.outL d n)) ∧ Below w.heap.size w w' := by
  obtain ⟨i0, hi0, hz0, hz1, hz2⟩ := info_parts Tryz.info3
  have hu : Tryz.prog.underlying 112 = some (.slice 3) := by kernel_rfl
  go_enter Tryz.func126, Tryz.ntmps126
  go_wp2_with (at_make; refine wpList_make_own _ rfl _ _ 112 rfl w.heap.size 3 i0 (.int .i64 0) 1 hu hi0 hz0 hz1 _ _ _ (n + 1) rfl rfl (by simp) ?b2 ?b3 (Nat.le_refl _) ?_)
  case b2 => rw [hz2]; omega
  case b3 => unfold maxLen; omega
  intro w0 hown0 hgrow0
  have hB0 : Below w.heap.size w w0 := (Below.refl _ _).grown hgrow0 (Nat.le_refl _) (fun k h => by cases h)
  go_wp2
  clear hgrow0
  have HP := Lib.hid hp
  have HD := Lib.hid hd
  have HDN := Lib.hid (And.intro hdn hc)
  have hfin := Nm.cy_range hd n
  clear hp hd hdn hc
  go_loopw [1, 7, 8] (fun cr out si wr => ∃ (k : Nat) (c : Int) (xs : List Int), cr = .int .i64 c ∧ si = .int .i64 k ∧ Aside ((k ≤ n ∧ c = Nm.cy d k ∧ xs = Nm.digs d k) ∨ (k = n + 1 ∧ c = 0 ∧ xs = Nm.outL d n)) ∧ wr.ownsRow w.heap.size 3 1 out xs.length (xs.map (Value.int .i64)) ∧ Aside (Below w.heap.size w wr)) (fun _ _ si _ => n + 2 - (intOf si).toNat)
  case atStart => exact ⟨0, 0, [], rfl, rfl, .inl ⟨Nat.zero_le _, rfl, rfl⟩, hown0, hB0⟩
  case round =>
    obtain ⟨k, c, xs, rfl, rfl, hst, hown, BW⟩ := hrel
    rcases hst.out with ⟨hk, rfl, rfl⟩ | ⟨rfl, rfl, rfl⟩
    · rw [Nm.digs_length] at hown
      have hcr := Nm.cy_range HD.out k
      have hdk := HD.out k
      have hcall := HP.out wr k hk BW.out
      by_cases hkn : k < n
      · have hkz : (k : Int) < (n : Int) := by omega
        have e1 : Nm.digs d (k + 1) = Nm.digs d k ++ [(d k + Nm.cy d k) % 10000] := rfl
        have e2 : Nm.cy d (k + 1) = (d k + Nm.cy d k) / 10000 := rfl
        have hdl := Nm.digs_length d k
        have HCALL := Lib.hid hcall
        have HE := Lib.hid (And.intro e1 (And.intro e2 hdl))
        generalize hcc : Nm.cy d k = c at *
        generalize hdd : d k = x at *
        generalize hxx : Nm.digs d k = xs at *
        have hsp : x + c < 0 ∨ (¬ x + c < 0 ∧ 10000 ≤ x + c) ∨ (¬ x + c < 0 ∧ ¬ 10000 ≤ x + c) := by omega
        clear hcall e1 e2 hdl hst
        rcases hsp with h1 | ⟨h1, h2⟩ | ⟨h1, h2⟩
        ·
          go_wp2_with (first | (go_at_fn g; refine HCALL.out.mono ?_; rintro e w1 ⟨rfl, hb1⟩; have hown1 := ownsRow_bel hown hb1) | (at_builtin; refine wpList_append_own _ rfl _ _ 112 rfl w.heap.size 3 i0 (.int .i64 0) 1 8 hu hi0 hz0 hz1 hz2 rfl (by decide) _ _ _ rfl (hown1.alloc _) ⟨w1.heap.size, 0, none⟩ 1 1 [.int .i64 (x + c + 10000)] rfl rfl ?c1 ?c2 ?c3 ?c4 ?c5 ?_; rotate_left 5; intro v' w2 hown' hgrow _))
          case c1 => exact cell_one_new _ _ _
          case c2 => intro u hu; simp at hu; subst hu; rfl
          case c3 => unfold maxLen; omega
          case c4 => omega
          case c5 => have := BW.out.size; have := hb1.size; simp; omega
          have hbn : Below w.heap.size w w2 := (BW.out.trans (hb1.mono BW.out.size)).trans (((Below.refl _ w1).alloc (by have := BW.out.size; have := hb1.size; omega) _).grown hgrow (by have := BW.out.size; have := hb1.size; simp; omega) (fun k hk => (hown1.lt k hk).1))
          refine ⟨⟨k + 1, -1, xs ++ [x + c + 10000], rfl, by go_num, .inl ⟨by omega, ?_, ?_⟩, ?_, hbn⟩, by simp [intOf]; omega⟩
          · rw [HE.out.2.1] <;> omega
          · rw [HE.out.1] <;> (congr 2; omega)
          · rw [List.length_append, HE.out.2.2]; simpa using hown'
        ·
          go_wp2_with (first | (go_at_fn g; refine HCALL.out.mono ?_; rintro e w1 ⟨rfl, hb1⟩; have hown1 := ownsRow_bel hown hb1) | (at_builtin; refine wpList_append_own _ rfl _ _ 112 rfl w.heap.size 3 i0 (.int .i64 0) 1 8 hu hi0 hz0 hz1 hz2 rfl (by decide) _ _ _ rfl (hown1.alloc _) ⟨w1.heap.size, 0, none⟩ 1 1 [.int .i64 ((x + c) % 10000)] rfl rfl ?c1 ?c2 ?c3 ?c4 ?c5 ?_; rotate_left 5; intro v' w2 hown' hgrow _))
          case c1 => exact cell_one_new _ _ _
          case c2 => intro u hu; simp at hu; subst hu; rfl
          case c3 => unfold maxLen; omega
          case c4 => omega
          case c5 => have := BW.out.size; have := hb1.size; simp; omega
          have hbn : Below w.heap.size w w2 := (BW.out.trans (hb1.mono BW.out.size)).trans (((Below.refl _ w1).alloc (by have := BW.out.size; have := hb1.size; omega) _).grown hgrow (by have := BW.out.size; have := hb1.size; simp; omega) (fun k hk => (hown1.lt k hk).1))
          refine ⟨⟨k + 1, (x + c) / 10000, xs ++ [(x + c) % 10000], rfl, by go_num, .inl ⟨by omega, ?_, ?_⟩, ?_, hbn⟩, by simp [intOf]; omega⟩
          · rw [HE.out.2.1] <;> omega
          · rw [HE.out.1] <;> (congr 2; omega)
          · rw [List.length_append, HE.out.2.2]; simpa using hown'
        ·
          go_wp2_with (first | (go_at_fn g; refine HCALL.out.mono ?_; rintro e w1 ⟨rfl, hb1⟩; have hown1 := ownsRow_bel hown hb1) | (at_builtin; refine wpList_append_own _ rfl _ _ 112 rfl w.heap.size 3 i0 (.int .i64 0) 1 8 hu hi0 hz0 hz1 hz2 rfl (by decide) _ _ _ rfl (hown1.alloc _) ⟨w1.heap.size, 0, none⟩ 1 1 [.int .i64 (x + c)] rfl rfl ?c1 ?c2 ?c3 ?c4 ?c5 ?_; rotate_left 5; intro v' w2 hown' hgrow _))
          case c1 => exact cell_one_new _ _ _
          case c2 => intro u hu; simp at hu; subst hu; rfl
          case c3 => unfold maxLen; omega
          case c4 => omega
          case c5 => have := BW.out.size; have := hb1.size; simp; omega
          have hbn : Below w.heap.size w w2 := (BW.out.trans (hb1.mono BW.out.size)).trans (((Below.refl _ w1).alloc (by have := BW.out.size; have := hb1.size; omega) _).grown hgrow (by have := BW.out.size; have := hb1.size; simp; omega) (fun k hk => (hown1.lt k hk).1))
          refine ⟨⟨k + 1, 0, xs ++ [x + c], rfl, by go_num, .inl ⟨by omega, ?_, ?_⟩, ?_, hbn⟩, by simp [intOf]; omega⟩
          · rw [HE.out.2.1] <;> omega
          · rw [HE.out.1] <;> (congr 2; omega)
          · rw [List.length_append, HE.out.2.2]; simpa using hown'
      · obtain rfl : k = n := by omega
        have hkz : ¬ (k : Int) < (k : Int) := by omega
        obtain ⟨hdn, hcn⟩ := HDN.out
        by_cases hc0 : Nm.cy d k = 0
        · have ho : Nm.outL d k = Nm.digs d k := by simp [Nm.outL, hc0]
          have HO := Lib.hid ho
          have hdl := Nm.digs_length d k
          have HL := Lib.hid hdl
          rw [hc0]
          clear hcall ho hst hcr hc0 hcn hfin hdl hdk hdn
          go_wp2
          go_ret
          refine ⟨⟨_, rfl, ?_⟩, BW.out⟩
          unfold OwnsInts
          rw [HO.out, HL.out]
          exact hown
        · have ho : Nm.outL d k = Nm.digs d k ++ [Nm.cy d k] := by simp [Nm.outL, hc0]
          have HO := Lib.hid (And.intro ho (Nm.digs_length d k))
          rw [hdn] at hcall
          have HCALL := Lib.hid hcall
          generalize Nm.cy d k = c at *
          have h1 : ¬ c < 0 := by omega
          have h2 : ¬ 10000 ≤ c := by omega
          have hcb : (c == 0) = false := by simp [hc0]
          clear hcall ho hst hdk hdn
          go_wp2_with (first | (go_at_fn g; refine HCALL.out.mono ?_; rintro e w1 ⟨rfl, hb1⟩; have hown1 := ownsRow_bel hown hb1) | (at_builtin; refine wpList_append_own _ rfl _ _ 112 rfl w.heap.size 3 i0 (.int .i64 0) 1 8 hu hi0 hz0 hz1 hz2 rfl (by decide) _ _ _ rfl (hown1.alloc _) ⟨w1.heap.size, 0, none⟩ 1 1 [.int .i64 (c)] rfl rfl ?c1 ?c2 ?c3 ?c4 ?c5 ?_; rotate_left 5; intro v' w2 hown' hgrow _))
          case c1 => exact cell_one_new _ _ _
          case c2 => intro u hu; simp at hu; subst hu; rfl
          case c3 => unfold maxLen; omega
          case c4 => omega
          case c5 => have := BW.out.size; have := hb1.size; simp; omega
          have hbn : Below w.heap.size w w2 := (BW.out.trans (hb1.mono BW.out.size)).trans (((Below.refl _ w1).alloc (by have := BW.out.size; have := hb1.size; omega) _).grown hgrow (by have := BW.out.size; have := hb1.size; simp; omega) (fun k hk => (hown1.lt k hk).1))
          refine ⟨⟨k + 1, 0, Nm.outL d k, rfl, by go_num, .inr ⟨rfl, rfl, rfl⟩, ?_, hbn⟩, by simp [intOf] <;> omega⟩
          rw [HO.out.1, List.length_append, HO.out.2]
          simpa using hown'
    · have hkz : ¬ ((n + 1 : Nat) : Int) < (n : Int) := by omega
      clear hst hfin
      go_wp2
      go_ret
      exact ⟨⟨_, rfl, hown⟩, BW.out⟩
end Go.Proofs.YtbenflnpnohcjaaGreatDoor

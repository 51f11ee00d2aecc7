/- Contracts of package integer's numbers: at, trimmed, the closures of plus, minus and by. -/
import Derived.Test.YtbenflnpnohcjaaGreatDoorT7
import Derived.Test.YtbenflnpnohcjaaGreatDoorNmFold
import Derived.IntWalk
namespace Go.Proofs.YtbenflnpnohcjaaGreatDoor
open Go.RowKit Go.Shelf

/-- A slice of ints that begins its array. -/
def SlAt (w : World) (A : Option Addr) (l : List Int) : Prop := l = [] ∨ ∃ b, A = some ⟨b, 0, none⟩ ∧ IntsAt w b l
theorem SlAt.below {w w' : World} {A : Option Addr} {l : List Int} (h : SlAt w A l) (hb : Below w.heap.size w w') : SlAt w' A l := by
  rcases h with h | ⟨b, h1, h2⟩
  · exact .inl h
  · exact .inr ⟨b, h1, h2.below hb⟩
theorem IntsAt.pre {w : World} {b : Nat} {l m : List Int} (h : IntsAt w b (l ++ m)) : IntsAt w b l := ⟨h.1, fun j hj => by
  have := h.2 j (by simp; omega)
  rw [this]
  congr 2
  rw [List.getD_eq_getElem?_getD, List.getElem?_append_left hj, ← List.getD_eq_getElem?_getD]⟩
theorem SlAt.pre {w : World} {A : Option Addr} {l m : List Int} (h : SlAt w A (l ++ m)) : SlAt w A l := by
  rcases h with h | ⟨b, h1, h2⟩
  · exact .inl (List.append_eq_nil_iff.1 h).1
  · exact .inr ⟨b, h1, h2.pre⟩

theorem at_any (A : Option Addr) (c : Nat) (l : List Int) (i : Nat) (w : World) (hR : SlAt w A l) : Calls Tryz.prog 128 #[.slice A l.length c, .int .i64 i] w fun e w' => e = .returned (.int .i64 (l.getD i 0)) ∧ w' = w := by
  by_cases h : i < l.length
  · obtain ⟨b, rfl, hb⟩ : ∃ b, A = some ⟨b, 0, none⟩ ∧ IntsAt w b l := by
      rcases hR with rfl | h'
      · simp at h
      · exact h'
    have hc := hb.2 i h
    have hz : (i : Int) < (l.length : Int) := by omega
    generalize l.getD i 0 = v at *
    go_enter Tryz.func128, Tryz.ntmps128
    go_wp2
    go_ret
    exact ⟨rfl, rfl⟩
  · have hz : ¬ (i : Int) < (l.length : Int) := by omega
    have hd : l.getD i 0 = 0 := by rw [List.getD_eq_getElem?_getD, List.getElem?_eq_none (by omega), Option.getD_none]
    rw [hd]
    clear hR
    go_enter Tryz.func128, Tryz.ntmps128
    go_wp2
    go_ret
    exact ⟨rfl, rfl⟩

theorem trimmed_any (A : Option Addr) (c : Nat) (l : List Int) (w : World) (hR : SlAt w A l) (hl : l.length ≤ 1000000) (hc : l.length ≤ c) (hcc : c ≤ 9223372036854775807) : Calls Tryz.prog 122 #[.slice A l.length c] w fun e w' => e = .returned (.slice A (Nm.trim l).length c) ∧ w = w' := by
  go_enter Tryz.func122, Tryz.ntmps122
  go_wp2
  go_loop [0] (fun s => ∃ (m : List Int), s = .slice A m.length c ∧ Nm.trim m = Nm.trim l ∧ SlAt w A m ∧ m.length ≤ l.length) (fun s => match s with | .slice _ n _ => n | _ => 0)
  case atStart => exact ⟨l, rfl, rfl, hR, Nat.le_refl _⟩
  case round =>
    obtain ⟨m, rfl, hm, hA, hml⟩ := hrel
    rcases List.eq_nil_or_concat m with rfl | ⟨m0, x, hmx⟩
    · have HM := Lib.hid hm
      clear hR hA hm
      go_wp2
      go_ret
      exact ⟨by rw [← HM.out]; rfl, rfl⟩
    · rw [List.concat_eq_append] at hmx
      subst hmx
      obtain ⟨b, rfl, hb⟩ : ∃ b, A = some ⟨b, 0, none⟩ ∧ IntsAt w b (m0 ++ [x]) := by
        rcases hA with h' | h'
        · simp at h'
        · exact h'
      have hc0 := hb.2 m0.length (by simp)
      have hx : (m0 ++ [x]).getD m0.length 0 = x := by simp
      rw [hx] at hc0
      have hpos : (0 : Int) < (m0.length : Int) + 1 := by omega
      have HM := Lib.hid hm
      have HB := Lib.hid (show SlAt w (some ⟨b, 0, none⟩) m0 from SlAt.pre (.inr ⟨b, rfl, hb⟩))
      have HL := Lib.hid hml
      have hm0 : m0.length < l.length := by have := hml; simp at this; omega
      have hm1 : m0.length < 1000000 := by omega
      have hm2 : m0.length ≤ c := by omega
      have hcz : (c : Int) ≤ 9223372036854775807 := by omega
      clear hR hA hm hb hx hml hcc hl
      by_cases hx0 : x = 0
      · subst hx0
        go_wp2
        go_round
        case rel => exact ⟨m0, rfl, by rw [← HM.out, Nm.trim_snoc_zero], HB.out, by omega⟩
        case measure => simp
      · have hxb : (x == 0) = false := by simp [hx0]
        go_wp2
        go_ret
        exact ⟨by rw [← HM.out, Nm.trim_snoc hx0]; simp, rfl⟩

/-- A slice of ints in a variable. -/
structure BoxSl (w : World) (B : Nat) (A : Option Addr) (l : List Int) (c : Nat) : Prop where
  cell : w.cell? ⟨B, 0, none⟩ = some (.slice A l.length c)
  at_ : SlAt w A l
theorem BoxSl.below {w w' : World} {B : Nat} {A : Option Addr} {l : List Int} {c : Nat} (h : BoxSl w B A l c) (hb : Below w.heap.size w w') : BoxSl w' B A l c :=
  ⟨(hb.cell (World.block_lt_of_cell? w _ h.cell)).trans h.cell, h.at_.below hb⟩

set_option maxRecDepth 100000 in
theorem plus1_any (Bl Bm : Nat) (A A' : Option Addr) (l m : List Int) (c c' : Nat) (i : Nat) (w : World) (hL : BoxSl w Bl A l c) (hM : BoxSl w Bm A' m c') (hl : 0 ≤ l.getD i 0 ∧ l.getD i 0 ≤ 9999) (hm : 0 ≤ m.getD i 0 ∧ m.getD i 0 ≤ 9999) :
    Calls Tryz.prog 127 #[.int .i64 i, .pointer (some ⟨Bl, 0, none⟩), .pointer (some ⟨Bm, 0, none⟩)] w fun e w' => e = .returned (.int .i64 (l.getD i 0 + m.getD i 0)) ∧ Below w.heap.size w w' := by
  have h1 := fun q => at_any A c l i (w.drewN q) (hL.at_.below (below_drewN (Below.refl _ _) q))
  have h2 := fun q => at_any A' c' m i (w.drewN q) (hM.at_.below (below_drewN (Below.refl _ _) q))
  have k1 := hL.cell
  have k2 := hM.cell
  generalize l.getD i 0 = x at *
  generalize m.getD i 0 = y at *
  have H1 := Lib.hid h1
  have H2 := Lib.hid h2
  clear hL hM h1 h2
  go_enter Tryz.func127, Tryz.ntmps127
  go_wp2
  go_quiet (first | (go_at_call 128; with_reducible exact Calls.quiet_of_same (H1.out _)) | (go_at_call 128; with_reducible exact Calls.quiet_of_same (H2.out _)))
  go_wp2
  go_ret
  exact ⟨rfl, below_drewN (Below.refl _ _) _⟩
set_option maxRecDepth 100000 in
theorem minus1_any (Bl Bm : Nat) (A A' : Option Addr) (l m : List Int) (c c' : Nat) (i : Nat) (w : World) (hL : BoxSl w Bl A l c) (hM : BoxSl w Bm A' m c') (hl : 0 ≤ l.getD i 0 ∧ l.getD i 0 ≤ 9999) (hm : 0 ≤ m.getD i 0 ∧ m.getD i 0 ≤ 9999) :
    Calls Tryz.prog 129 #[.int .i64 i, .pointer (some ⟨Bl, 0, none⟩), .pointer (some ⟨Bm, 0, none⟩)] w fun e w' => e = .returned (.int .i64 (l.getD i 0 - m.getD i 0)) ∧ Below w.heap.size w w' := by
  have h1 := fun q => at_any A c l i (w.drewN q) (hL.at_.below (below_drewN (Below.refl _ _) q))
  have h2 := fun q => at_any A' c' m i (w.drewN q) (hM.at_.below (below_drewN (Below.refl _ _) q))
  have k1 := hL.cell
  have k2 := hM.cell
  generalize l.getD i 0 = x at *
  generalize m.getD i 0 = y at *
  have H1 := Lib.hid h1
  have H2 := Lib.hid h2
  clear hL hM h1 h2
  go_enter Tryz.func129, Tryz.ntmps129
  go_wp2
  go_quiet (first | (go_at_call 128; with_reducible exact Calls.quiet_of_same (H1.out _)) | (go_at_call 128; with_reducible exact Calls.quiet_of_same (H2.out _)))
  go_wp2
  go_ret
  exact ⟨rfl, below_drewN (Below.refl _ _) _⟩
set_option maxRecDepth 100000 in
theorem by1_any (Bl Bk : Nat) (A : Option Addr) (l : List Int) (c : Nat) (k : Int) (i : Nat) (w : World) (hL : BoxSl w Bl A l c) (hk : w.cell? ⟨Bk, 0, none⟩ = some (.int .i64 k)) (hb : -9223372036854775808 ≤ l.getD i 0 * k ∧ l.getD i 0 * k ≤ 9223372036854775807) :
    Calls Tryz.prog 156 #[.int .i64 i, .pointer (some ⟨Bl, 0, none⟩), .pointer (some ⟨Bk, 0, none⟩)] w fun e w' => e = .returned (.int .i64 (l.getD i 0 * k)) ∧ Below w.heap.size w w' := by
  have h1 := fun q => at_any A c l i (w.drewN q) (hL.at_.below (below_drewN (Below.refl _ _) q))
  have k1 := hL.cell
  generalize l.getD i 0 = x at *
  have H1 := Lib.hid h1
  clear hL h1
  have hw : IntKind.i64.wrap (x * k) = x * k := IntWalk.i64_in _ hb
  have hw2 : wrap64 (x * k) = x * k := by unfold wrap64; omega
  go_enter Tryz.func156, Tryz.ntmps156
  go_wp2
  go_quiet ((go_at_call 128; with_reducible exact Calls.quiet_of_same (H1.out _)))
  go_wp2
  go_ret
  exact ⟨by first | rfl | rw [hw] | rw [hw2], below_drewN (Below.refl _ _) _⟩
end Go.Proofs.YtbenflnpnohcjaaGreatDoor

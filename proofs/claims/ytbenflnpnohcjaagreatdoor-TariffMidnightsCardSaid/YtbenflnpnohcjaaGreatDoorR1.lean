/- The reference's digits: trim, order, minus. -/
import Derived.Test.YtbenflnpnohcjaaGreatDoorN14
import Derived.Test.YtbenflnpnohcjaaGreatDoorNmRef
import Derived.BigQuiet
namespace Go.Proofs.YtbenflnpnohcjaaGreatDoor
open Go.RowKit Go.Shelf

/-- A natural number in memory: its decimal digits. -/
def NumD (w : World) (v : Value) (N : Nat) : Prop := ∃ A c, v = .slice A (Nm.grp 10 N).length c ∧ SlAt w A (Nm.grp 10 N) ∧ (Nm.grp 10 N).length ≤ c ∧ c ≤ 9223372036854775807 ∧ (A = none → c = 0)
theorem NumD.below {w w' : World} {v : Value} {N : Nat} (h : NumD w v N) (hb : Below w.heap.size w w') : NumD w' v N := by
  obtain ⟨A, c, h1, h2, h3⟩ := h
  exact ⟨A, c, h1, h2.below hb, h3⟩

theorem below_drewN'' (W : World) (n : Nat) : Below W.heap.size W (W.drewN n) := ⟨rfl, rfl, rfl, Nat.le_refl _, fun _ _ => rfl⟩
theorem trim_pre' : ∀ (l : List Int), ∃ m, l = Nm.trim l ++ m
  | [] => ⟨[], by simp [Nm.trim]⟩
  | x :: l => by
    obtain ⟨m, hm⟩ := trim_pre' l
    simp only [Nm.trim]
    split
    · exact ⟨x :: l, by simp⟩
    · exact ⟨m, by rw [List.cons_append, ← hm]⟩

set_option maxHeartbeats 1000000 in
theorem trimD_any (A : Option Addr) (c : Nat) (l : List Int) (w : World) (hR : SlAt w A l) (hl : l.length ≤ 1000000) (hc : l.length ≤ c) (hcc : c ≤ 9223372036854775807) : Calls Tryz.prog 157 #[.slice A l.length c] w fun e w' => e = .returned (.slice A (Nm.trim l).length c) ∧ w = w' := by
  go_enter Tryz.func157, Tryz.ntmps157
  go_wp2
  go_loop [0] (fun s => ∃ (m : List Int), s = .slice A m.length c ∧ Nm.trim m = Nm.trim l ∧ SlAt w A m ∧ m.length ≤ l.length) (fun s => match s with | .slice _ n _ => n | _ => 0)
  case atStart => exact ⟨l, rfl, rfl, hR, Nat.le_refl _⟩
  case round =>
    obtain ⟨m, rfl, hm, hA, hml⟩ := hrel
    rcases List.eq_nil_or_concat m with rfl | ⟨m0, x, hmx⟩
    · have HM := Lib.hid hm
      clear hR hA hm
      go_wp2
      go_ret
      exact ⟨by rw [← HM.out]; rfl, rfl⟩
    · rw [List.concat_eq_append] at hmx
      subst hmx
      obtain ⟨b, rfl, hb⟩ : ∃ b, A = some ⟨b, 0, none⟩ ∧ IntsAt w b (m0 ++ [x]) := by
        rcases hA with h' | h'
        · simp at h'
        · exact h'
      have hc0 := hb.2 m0.length (by simp)
      have hx : (m0 ++ [x]).getD m0.length 0 = x := by simp
      rw [hx] at hc0
      have hpos : (0 : Int) < (m0.length : Int) + 1 := by omega
      have HM := Lib.hid hm
      have HB := Lib.hid (show SlAt w (some ⟨b, 0, none⟩) m0 from SlAt.pre (.inr ⟨b, rfl, hb⟩))
      have HL := Lib.hid hml
      have hm0 : m0.length < l.length := by have := hml; simp at this; omega
      have hm1 : m0.length < 1000000 := by omega
      have hm2 : m0.length ≤ c := by omega
      have hcz : (c : Int) ≤ 9223372036854775807 := by omega
      clear hR hA hm hb hx hml hcc hl
      by_cases hx0 : x = 0
      · subst hx0
        go_wp2
        go_round
        case rel => exact ⟨m0, rfl, by rw [← HM.out, Nm.trim_snoc_zero], HB.out, by omega⟩
        case measure => simp
      · have hxb : (x == 0) = false := by simp [hx0]
        go_wp2
        go_ret
        exact ⟨by rw [← HM.out, Nm.trim_snoc hx0]; simp, rfl⟩

theorem numD_trim {w : World} {base : Nat} {v : Value} {l : List Int} {N : Nat} (h : OwnsInts w base v l) (ht : Nm.trim l = Nm.grp 10 N) (hl : l.length ≤ 1000000) :
    Calls Tryz.prog 157 #[v] w fun e w' => (∃ v', e = .returned v' ∧ NumD w' v' N ∧ ∀ b, v'.ownBlock = some b → base ≤ b) ∧ w = w' := by
  obtain ⟨A, c, rfl, h1, h2, h3⟩ := slAt_owns h
  have hbase : ∀ b, (Value.slice A l.length c).ownBlock = some b → base ≤ b := fun b hb => ((show w.ownsRow base 3 1 _ _ _ from h).lt b hb).1
  refine (trimD_any A c l w h1 hl h2 h3.1).mono ?_
  rintro e w' ⟨rfl, rfl⟩
  obtain ⟨m, hm⟩ := trim_pre' l
  have hle : (Nm.trim l).length ≤ l.length := by (conv => rhs; rw [hm]); simp
  refine ⟨⟨_, rfl, ⟨A, c, by rw [ht], ?_, by rw [← ht]; omega, h3⟩, fun b hb => hbase b (by cases A with
    | none => cases hb
    | some a => exact hb)⟩, rfl⟩
  rw [← ht]
  exact SlAt.pre (m := m) (by rw [← hm]; exact h1)

set_option maxRecDepth 100000 in
set_option maxHeartbeats 2000000 in
theorem orderL_any (A A' : Option Addr) (c c' : Nat) (l m : List Int) (w : World) (h1 : SlAt w A l) (h2 : SlAt w A' m) (hl : l.length ≤ 1000000) (hm : m.length ≤ 1000000) :
    Calls Tryz.prog 132 #[.slice A l.length c, .slice A' m.length c'] w fun e w' => e = .returned (.int .i64 (Nm.cmpL l m)) ∧ Below w.heap.size w w' := by
  by_cases hne : l.length = m.length
  · have HNE := Lib.hid hne
    have hne2 : ¬ ((l.length : Int) ≠ (m.length : Int)) := by omega
    have hnb : ((l.length : Int) != (m.length : Int)) = false := by rw [hne]; simp
    have hw : IntKind.i64.wrap ((l.length : Int) - 1) = (l.length : Int) - 1 := IntWalk.i64_in _ (by omega)
    clear hne hne2
    go_enter Tryz.func132, Tryz.ntmps132
    go_wp2
    go_loopw [5] (fun s wr => ∃ k : Nat, s = .int .i64 ((k : Int) - 1) ∧ k ≤ l.length ∧ Aside (Nm.cmpFrom l m l.length = Nm.cmpFrom l m k ∧ Below w.heap.size w wr)) (fun s _ => (intOf s + 1).toNat)
    case atStart => exact ⟨l.length, rfl, Nat.le_refl _, rfl, Below.refl _ _⟩
    case round =>
      obtain ⟨k, rfl, hk, has⟩ := hrel
      obtain ⟨hcf, hB⟩ := has.out
      have HC := Lib.hid (And.intro hcf hB)
      clear has hcf
      cases k with
      | zero =>
        go_wp2
        go_ret
        exact ⟨by unfold Nm.cmpL; rw [if_pos HNE.out, HC.out.1]; rfl, HC.out.2⟩
      | succ k =>
        obtain ⟨b, rfl, hb⟩ : ∃ b, A = some ⟨b, 0, none⟩ ∧ IntsAt w b l := by
          rcases h1 with h' | h'
          · rw [h'] at hk; simp at hk
          · exact h'
        obtain ⟨b', rfl, hb'⟩ : ∃ b, A' = some ⟨b, 0, none⟩ ∧ IntsAt w b m := by
          rcases h2 with h' | h'
          · have := HNE.out; rw [h'] at this; simp at this; rw [this] at hk; simp at hk
          · exact h'
        have e1 := cell_below hB (hb.2 k (by omega))
        have e2 := cell_below hB (hb'.2 k (by have := HNE.out; omega))
        have hkl : (k : Int) < (l.length : Int) := by omega
        have hkm : (k : Int) < (m.length : Int) := by have := HNE.out; omega
        have hks : (((k + 1 : Nat) : Int) - 1) = (k : Int) := by omega
        rw [hks]
        have hcs : Nm.cmpFrom l m (k + 1) = if l.getD k 0 = m.getD k 0 then Nm.cmpFrom l m k else Nm.sgn (l.getD k 0) (m.getD k 0) := rfl
        have HCS := Lib.hid hcs
        generalize l.getD k 0 = x at *
        generalize m.getD k 0 = y at *
        clear hcs hb hb' h1 h2 hks hB
        by_cases hxy : x = y
        · subst hxy
          have hcs2 := HCS.out
          rw [if_pos rfl] at hcs2
          have HD := Lib.hid hcs2
          clear hcs2
          go_wp2
          go_quiet (fail)
          go_wp2
          go_roundw
          case rel => exact ⟨k, rfl, by omega, by rw [HC.out.1, HD.out], HC.out.2.trans ((below_drewN'' _ _).mono HC.out.2.size)⟩
          case measure => simp [intOf] <;> omega
        · have hxb : (x != y) = true := by simp [hxy]
          have hcs2 := HCS.out
          rw [if_neg hxy] at hcs2
          have HD := Lib.hid hcs2
          clear hcs2
          by_cases hlt : x < y
          · have hs : Nm.sgn x y = -1 := by unfold Nm.sgn; rw [if_pos hlt]
            have HS := Lib.hid hs
            clear hs hxy
            go_wp2
            go_quiet (fail)
            go_wp2
            go_quiet (fail)
            go_wp2
            go_ret
            exact ⟨by unfold Nm.cmpL; rw [if_pos HNE.out, HC.out.1, HD.out, HS.out]; rfl, HC.out.2.trans (((below_drewN'' _ _).trans ((below_drewN'' _ _).mono (Nat.le_refl _))).mono HC.out.2.size)⟩
          · have hs : Nm.sgn x y = 1 := by unfold Nm.sgn; rw [if_neg hlt, if_pos (by omega)]
            have HS := Lib.hid hs
            clear hs hxy
            go_wp2
            go_quiet (fail)
            go_wp2
            go_quiet (fail)
            go_wp2
            go_ret
            exact ⟨by unfold Nm.cmpL; rw [if_pos HNE.out, HC.out.1, HD.out, HS.out]; rfl, HC.out.2.trans (((below_drewN'' _ _).trans ((below_drewN'' _ _).mono (Nat.le_refl _))).mono HC.out.2.size)⟩
  · have hnb : ((l.length : Int) != (m.length : Int)) = true := by simp; omega
    have hcm : Nm.cmpL l m = Nm.sgn l.length m.length := by unfold Nm.cmpL; rw [if_neg hne]
    rw [hcm]
    clear hcm
    by_cases hlt : (l.length : Int) < (m.length : Int)
    · have hs : Nm.sgn l.length m.length = -1 := by unfold Nm.sgn; rw [if_pos hlt]
      rw [hs]
      clear hs hne
      go_enter Tryz.func132, Tryz.ntmps132
      go_wp2
      go_ret
      exact ⟨rfl, Below.refl _ _⟩
    · have hs : Nm.sgn l.length m.length = 1 := by unfold Nm.sgn; rw [if_neg hlt, if_pos (by omega)]
      rw [hs]
      clear hs hne
      go_enter Tryz.func132, Tryz.ntmps132
      go_wp2
      go_ret
      exact ⟨rfl, Below.refl _ _⟩

theorem order_any (M N : Nat) (v u : Value) (w : World) (hv : NumD w v M) (hu : NumD w u N) (lM : (Nm.grp 10 M).length ≤ 10000) (lN : (Nm.grp 10 N).length ≤ 10000) :
    Calls Tryz.prog 132 #[v, u] w fun e w' => e = .returned (.int .i64 (Nm.sgn M N)) ∧ Below w.heap.size w w' := by
  obtain ⟨A, c, rfl, h1, h2, h3, _⟩ := hv
  obtain ⟨A', c', rfl, k1, k2, k3, _⟩ := hu
  have h := orderL_any A A' c c' _ _ w h1 k1 (by omega) (by omega)
  rw [Nm.cmpL_grp (by omega)] at h
  exact h
end Go.Proofs.YtbenflnpnohcjaaGreatDoor

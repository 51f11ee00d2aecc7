/- slices.Backward over a number's groups. -/
import Derived.Test.YtbenflnpnohcjaaGreatDoorN4
import Derived.Test.YtbenflnpnohcjaaGreatDoorT8
namespace Go.Proofs.YtbenflnpnohcjaaGreatDoor
open Go.RowKit Go.Shelf

attribute [local go_sem] Oper.semAt_some

/-- The places below k, the last one first. -/
def backFrom (n : Nat) : (k : Nat) → k ≤ n → List (Fin n)
  | 0, _ => []
  | k + 1, h => ⟨k, h⟩ :: backFrom n k (Nat.le_of_lt h)
theorem backFrom_length (n : Nat) : ∀ k h, (backFrom n k h).length = k
  | 0, _ => rfl
  | k + 1, h => by simp [backFrom, backFrom_length n k]
theorem mem_backFrom (n : Nat) : ∀ k h (i : Fin n), i ∈ backFrom n k h ↔ i.val < k
  | 0, _, i => by simp [backFrom]
  | k + 1, h, i => by
    simp only [backFrom, List.mem_cons, mem_backFrom n k _ i]
    constructor
    · rintro (h | h)
      · rw [h]; simp
      · omega
    · intro h
      by_cases c : i.val = k
      · exact .inl (Fin.ext c)
      · exact .inr (by omega)
abbrev backAll (l : List Int) : List (Fin l.length) := backFrom l.length l.length (Nat.le_refl _)
/-- What lies at a place. -/
def gd (l : List Int) (i : Nat) : Int := l.getD i 0
def encB (l : List Int) (i : Fin l.length) : Array Value := #[.int .i64 (i.val : Nat), .int .i64 (gd l i.val)]

theorem SlAt.kps {S : Nat → TypeId → Prop} {w w' : World} {A : Option Addr} {l : List Int} (h : SlAt w A l) (hk : KpS S w w') (hS : ∀ ad, A = some ad → l ≠ [] → ∀ t, ¬ S ad.block t) : SlAt w' A l := by
  by_cases hne : l = []
  · exact .inl hne
  rcases h with h | ⟨b, h1, h2, h3⟩
  · exact .inl h
  · exact .inr ⟨b, h1, Nat.lt_of_lt_of_le h2 hk.size, fun j hj => hk.cell (p := ⟨b, j, none⟩) (fun _ t _ _ => hS ⟨b, 0, none⟩ h1 hne t) (h3 j hj)⟩

theorem backward_any (A : Option Addr) (n c : Nat) (w : World) :
    Calls Tryz.prog 114 #[.slice A n c] w fun e w' => e = .returned (.func (.func 146) #[] #[.pointer (some ⟨w.heap.size, 0, none⟩)]) ∧ w.alloc (.cells #[.slice A n c] 112) = w' := by
  go_enter Tryz.func114, Tryz.ntmps114
  go_wp2
  go_ret
  exact ⟨rfl, rfl⟩

set_option maxRecDepth 100000 in
set_option maxHeartbeats 4000000 in
theorem backward1_stops (S : Nat → TypeId → Prop) (n : Nat) (hn : 1 ≤ n) (A : Option Addr) (c : Nat) (l0 : List Int) (hl0 : l0.length ≤ 1000000) (B1 : Nat) (w : World)
    (hB : Boxed w B1 112 (.slice A l0.length c)) (hR : SlAt w A l0) (h1 : ¬ S B1 112) (hS : ∀ ad, A = some ad → l0 ≠ [] → ∀ t, ¬ S ad.block t) :
    SeqStopsK Fence.wide n Tryz.prog 146 #[.pointer (some ⟨B1, 0, none⟩)] (encB l0) (KpS S) (fun ys => ys = backAll l0) (fun pre => pre <+: backAll l0) l0.length w := fun l J Jx W hW hJ hJx hY h0 => by
  have hB0 : Boxed W B1 112 (.slice A l0.length c) := (hW.block B1 hB.lt).trans hB
  have hR0 := hR.below hW
  have d10 := hB0.cell
  refine callsIn_of_wp Tryz.func146 rfl trivial ?_ rfl
  simp only [Tryz.ntmps146, List.size_toArray, List.length_cons, List.length_nil, Nat.reduceAdd, Nat.reduceSub, Array.replicate_succ, Array.replicate_zero, List.push_toArray, List.append_toArray, List.nil_append, List.cons_append]
  gi_wp2
  clear d10
  gi_loopw [3] (fun v wr => ∃ (pre : List (Fin l0.length)) (k : Nat), v = .int .i64 ((k : Int) - 1) ∧ k ≤ l0.length ∧ Aside (∃ h, backAll l0 = pre ++ backFrom l0.length k h) ∧ J pre wr ∧ Aside (Boxed wr B1 112 (.slice A l0.length c)) ∧ Aside (SlAt wr A l0)) (fun v _ => (intOf v + 1).toNat)
  case atStart => exact ⟨[], l0.length, rfl, Nat.le_refl _, ⟨Nat.le_refl _, (List.nil_append _).symm⟩, h0, hB0, hR0⟩
  case round =>
    obtain ⟨pre, k, rfl, hk, hpre, hJp, hbx, hsl⟩ := hrel
    have k10 := hbx.out.cell
    cases k with
    | zero =>
      have HP := Lib.hid hpre.out
      clear hpre
      gi_wp2
      go_end0
      have hpp : backAll l0 = pre := by obtain ⟨h, this⟩ := HP.out; simpa only [backFrom, List.append_nil] using this
      exact ⟨⟨_, rfl⟩, .inl ⟨_, hpp.symm, hJp⟩⟩
    | succ k =>
      obtain ⟨b, rfl, hb⟩ : ∃ b, A = some ⟨b, 0, none⟩ ∧ IntsAt wr b l0 := by
        rcases hsl.out with h' | h'
        · rw [h'] at hk; simp at hk
        · exact h'
      have hcell := hb.2 k (by omega)
      have hkz : (k : Int) < (l0.length : Int) := by omega
      have hlen3 : pre.length < l0.length := by
        obtain ⟨h, hp0⟩ := hpre.out
        have := congrArg List.length hp0
        rw [List.length_append, backFrom_length, backFrom_length] at this
        omega
      obtain ⟨fn, tmps, assign, body, hy, hR⟩ := hY pre ⟨k, hk⟩ wr hJp hlen3
      dsimp only [encB] at hy
      have hks : (((k + 1 : Nat) : Int) - 1) = (k : Int) := by omega
      rw [hks]
      have hst : backAll l0 = (pre ++ [⟨k, hk⟩]) ++ backFrom l0.length k (Nat.le_of_lt hk) := by
        obtain ⟨h, hp0⟩ := hpre.out
        rw [hp0]; simp [backFrom]
      have HST := Lib.hid hst
      have HJP := Lib.hid hk
      rw [show l0.getD k 0 = gd l0 k from rfl] at hcell
      generalize gd l0 k = x at *
      clear hpre hst hks hb
      gi_wp2
      refine hR.mono ?_
      rintro e w4 (⟨rfl, hJ4, hk4⟩ | ⟨rfl, hJx4⟩)
      · have hbx4 : Boxed w4 B1 112 (.slice (some ⟨b, 0, none⟩) l0.length c) := hk4.same B1 _ _ _ h1 hbx.out
        have hsl4 := hsl.out.kps hk4 hS
        clear hy hR hY
        gi_wp2
        go_roundw
        case rel => exact ⟨pre ++ [⟨k, HJP.out⟩], k, rfl, by omega, ⟨_, HST.out⟩, hJ4, hbx4, hsl4⟩
        case measure => simp [intOf] <;> omega
      · clear hy hR hY
        gi_wp2
        refine bodyPost_ret (results_none rfl _ _ _) rfl ?_
        exact ⟨⟨_, rfl⟩, .inr ⟨pre ++ [⟨k, HJP.out⟩], ⟨_, HST.out.symm⟩, hJx4⟩⟩
end Go.Proofs.YtbenflnpnohcjaaGreatDoor

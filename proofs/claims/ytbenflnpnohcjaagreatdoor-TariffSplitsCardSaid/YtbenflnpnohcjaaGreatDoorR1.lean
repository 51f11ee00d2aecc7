/- Plain law of the reference's digits (base 10). The reference's digits: trim, order, minus. -/
import Derived.Test.YtbenflnpnohcjaaGreatDoorNmStr
import Derived.Test.YtbenflnpnohcjaaGreatDoorNmDiv
import Derived.Test.YtbenflnpnohcjaaGreatDoorN14
import Derived.BigQuiet
namespace Go.Proofs.YtbenflnpnohcjaaGreatDoor.Nm

theorem grp_at {b : Nat} (hb : 2 ≤ b) : ∀ (k N : Nat), (grp b N).getD k 0 = ((N / b ^ k % b : Nat) : Int)
  | 0, N => by
    by_cases h : N = 0
    · subst h; rw [grp_zero]; simp
    · rw [grp_pos hb (by omega)]; simp
  | k + 1, N => by
    by_cases h : N = 0
    · subst h; rw [grp_zero]; simp
    · rw [grp_pos hb (by omega), List.getD_cons_succ, grp_at hb k, Nat.div_div_eq_div_mul, Nat.pow_succ, Nat.mul_comm b]
theorem grp_lt_iff {b : Nat} (hb : 2 ≤ b) (N k : Nat) : k < (grp b N).length ↔ N / b ^ k ≠ 0 := by
  induction k generalizing N with
  | zero =>
    by_cases h : N = 0
    · subst h; rw [grp_zero]; simp
    · rw [grp_pos hb (by omega)]; simp [h]
  | succ k ih =>
    by_cases h : N = 0
    · subst h; rw [grp_zero]; simp
    · rw [grp_pos hb (by omega), List.length_cons, Nat.add_lt_add_iff_right, ih, Nat.div_div_eq_div_mul, Nat.pow_succ, Nat.mul_comm b]
theorem grp_end {b : Nat} (hb : 2 ≤ b) (N : Nat) : N / b ^ (grp b N).length = 0 := by
  by_cases h : N / b ^ (grp b N).length = 0
  · exact h
  · have := (grp_lt_iff hb N _).2 h; omega
theorem nDigits_grp {N : Nat} (h : N ≠ 0) : Lib.nDigits N = (grp 10 N).length := by
  have h1 : (grp 10 N).length ≠ 0 := by
    have := (grp_lt_iff (b := 10) (by omega) N 0).2 (by simpa using h)
    omega
  obtain ⟨k, hk⟩ : ∃ k, (grp 10 N).length = k + 1 := ⟨(grp 10 N).length - 1, by omega⟩
  rw [hk]
  apply Lib.nDigits_unique
  · have := (grp_lt_iff (b := 10) (by omega) N k).1 (by omega)
    by_cases hc : 10 ^ k ≤ N
    · exact hc
    · exact absurd (Nat.div_eq_of_lt (by omega)) this
  · have := grp_end (b := 10) (by omega) N
    rw [hk] at this
    by_cases hc : N < 10 ^ (k + 1)
    · exact hc
    · have h3 := Nat.div_pos (show 10 ^ (k + 1) ≤ N by omega) (Nat.pow_pos (by omega))
      omega

/-! Subtraction, digit for digit. -/

structure MiOk (M N k : Nat) (xs : List Int) (c : Int) : Prop where
  len : xs.length = k
  inr : InR 10 xs
  cr : c = 0 ∨ c = 1
  val : gv 10 xs + ((10 : Nat) : Int) ^ k * (((M / 10 ^ k : Nat) : Int) - ((N / 10 ^ k : Nat) : Int) - c) = (M : Int) - N
theorem MiOk.zero (M N : Nat) : MiOk M N 0 [] 0 := ⟨rfl, InR.nil _, .inl rfl, by simp [gv]⟩
theorem MiOk.step {M N k : Nat} {xs : List Int} {c n c' : Int} (h : MiOk M N k xs c) (hn : n = ((M / 10 ^ k % 10 : Nat) : Int) - c - ((N / 10 ^ k % 10 : Nat) : Int) + 10 * c') (h0 : 0 ≤ n ∧ n < 10) (hc : c' = 0 ∨ c' = 1) : MiOk M N (k + 1) (xs ++ [n]) c' := by
  refine ⟨by simp [h.len], h.inr.append (InR.cons h0.1 h0.2 (InR.nil _)), hc, ?_⟩
  have hv := h.val
  rw [← hv, gv_snoc, h.len, Int.pow_succ, Int.mul_assoc, Int.add_assoc, ← Int.mul_add]
  congr 2
  have e1 : M / 10 ^ (k + 1) = M / 10 ^ k / 10 := by rw [Nat.pow_succ, Nat.div_div_eq_div_mul]
  have e2 : N / 10 ^ (k + 1) = N / 10 ^ k / 10 := by rw [Nat.pow_succ, Nat.div_div_eq_div_mul]
  rw [e1, e2, hn]
  generalize M / 10 ^ k = m
  generalize N / 10 ^ k = p
  have e3 : ((10 : Nat) : Int) = 10 := rfl
  rw [e3]
  omega
theorem MiOk.done {M N : Nat} (hNM : N ≤ M) {xs : List Int} {c : Int} (h : MiOk M N (grp 10 M).length xs c) : trim xs = grp 10 (M - N) := by
  have hv := h.val
  have e1 := grp_end (b := 10) (by omega) M
  have e2 : N / 10 ^ (grp 10 M).length = 0 := Nat.eq_zero_of_le_zero (Nat.le_trans (Nat.div_le_div_right hNM) (Nat.le_of_eq e1))
  rw [e1, e2] at hv
  have hl := gv_lt (b := 10) (by omega) h.inr
  rw [h.len] at hl
  rw [trim_eq (b := 10) (by omega) h.inr]
  congr 1
  rcases h.cr with rfl | rfl
  · simp at hv
    omega
  · simp at hv
    simp at hl
    omega

/-! The text, digit for digit. -/

def tq (N k : Nat) : List UInt8 := if N / 10 ^ k = 0 then [] else Lib.decDigits (N / 10 ^ k)
theorem tq_step {N k : Nat} (h : k < (grp 10 N).length) : tq N k = tq N (k + 1) ++ [UInt8.ofNat (48 + N / 10 ^ k % 10)] := by
  have h1 := (grp_lt_iff (b := 10) (by omega) N k).1 h
  have e1 : N / 10 ^ (k + 1) = N / 10 ^ k / 10 := by rw [Nat.pow_succ, Nat.div_div_eq_div_mul]
  unfold tq
  rw [if_neg h1, e1]
  generalize N / 10 ^ k = m at *
  by_cases h2 : m / 10 = 0
  · rw [if_pos h2, Lib.decDigits_one (by omega), show m % 10 = m by omega]; rfl
  · rw [if_neg h2, dec_step (by omega)]
theorem tq_end (N : Nat) : tq N (grp 10 N).length = [] := by
  unfold tq
  rw [if_pos (grp_end (by omega) N)]
theorem tq_all {N : Nat} (h : N ≠ 0) : tq N 0 = Lib.decDigits N := by unfold tq; simp [h]

/-! The digits of a text, from its end on. -/

theorem dec_at {N : Nat} (h : N ≠ 0) (k : Nat) (hk : k < (grp 10 N).length) : (Lib.decDigits N)[(grp 10 N).length - 1 - k]? = some (UInt8.ofNat (48 + N / 10 ^ k % 10)) := by
  rw [Lib.decDigits_eq, nDigits_grp h]
  rw [List.getElem?_map, List.getElem?_range (by omega)]
  simp only [Option.map_some]
  congr 1
  rw [show (grp 10 N).length - 1 - ((grp 10 N).length - 1 - k) = k by omega]
  rfl
theorem grp_take_snoc {N k : Nat} (hk : k < (grp 10 N).length) : (grp 10 N).take (k + 1) = (grp 10 N).take k ++ [((N / 10 ^ k % 10 : Nat) : Int)] := by
  have h1 := grp_at (b := 10) (by omega) k N
  rw [List.getD_eq_getElem?_getD, List.getElem?_eq_getElem hk, Option.getD_some] at h1
  rw [List.take_add_one, List.getElem?_eq_getElem hk, h1]
  rfl
end Go.Proofs.YtbenflnpnohcjaaGreatDoor.Nm

namespace Go.Proofs.YtbenflnpnohcjaaGreatDoor
open Go.RowKit Go.Shelf

/-- A natural number in memory: its decimal digits. -/
def NumD (w : World) (v : Value) (N : Nat) : Prop := ∃ A c, v = .slice A (Nm.grp 10 N).length c ∧ SlAt w A (Nm.grp 10 N) ∧ (Nm.grp 10 N).length ≤ c ∧ c ≤ 9223372036854775807 ∧ (A = none → c = 0)
theorem NumD.below {w w' : World} {v : Value} {N : Nat} (h : NumD w v N) (hb : Below w.heap.size w w') : NumD w' v N := by
  obtain ⟨A, c, h1, h2, h3⟩ := h
  exact ⟨A, c, h1, h2.below hb, h3⟩

theorem below_drewN'' (W : World) (n : Nat) : Below W.heap.size W (W.drewN n) := ⟨rfl, rfl, rfl, Nat.le_refl _, fun _ _ => rfl⟩
theorem trim_pre' : ∀ (l : List Int), ∃ m, l = Nm.trim l ++ m
  | [] => ⟨[], by simp [Nm.trim]⟩
  | x :: l => by
    obtain ⟨m, hm⟩ := trim_pre' l
    simp only [Nm.trim]
    split
    · exact ⟨x :: l, by simp⟩
    · exact ⟨m, by rw [List.cons_append, ← hm]⟩

set_option maxHeartbeats 1000000 in
theorem trimD_any (A : Option Addr) (c : Nat) (l : List Int) (w : World) (hR : SlAt w A l) (hl : l.length ≤ 1000000) (hc : l.length ≤ c) (hcc : c ≤ 9223372036854775807) : Calls Tryz.prog 157 #[.slice A l.length c] w fun e w' => e = .returned (.slice A (Nm.trim l).length c) ∧ w = w' := by
  go_enter Tryz.func157, Tryz.ntmps157
  go_wp2
  go_loop [0] (fun s => ∃ (m : List Int), s = .slice A m.length c ∧ Nm.trim m = Nm.trim l ∧ SlAt w A m ∧ m.length ≤ l.length) (fun s => match s with | .slice _ n _ => n | _ => 0)
  case atStart => exact ⟨l, rfl, rfl, hR, Nat.le_refl _⟩
  case round =>
    obtain ⟨m, rfl, hm, hA, hml⟩ := hrel
    rcases List.eq_nil_or_concat m with rfl | ⟨m0, x, hmx⟩
    · have HM := Lib.hid hm
      clear hR hA hm
      go_wp2
      go_ret
      exact ⟨by rw [← HM.out]; rfl, rfl⟩
    · rw [List.concat_eq_append] at hmx
      subst hmx
      obtain ⟨b, rfl, hb⟩ : ∃ b, A = some ⟨b, 0, none⟩ ∧ IntsAt w b (m0 ++ [x]) := by
        rcases hA with h' | h'
        · simp at h'
        · exact h'
      have hc0 := hb.2 m0.length (by simp)
      have hx : (m0 ++ [x]).getD m0.length 0 = x := by simp
      rw [hx] at hc0
      have hpos : (0 : Int) < (m0.length : Int) + 1 := by omega
      have HM := Lib.hid hm
      have HB := Lib.hid (show SlAt w (some ⟨b, 0, none⟩) m0 from SlAt.pre (.inr ⟨b, rfl, hb⟩))
      have HL := Lib.hid hml
      have hm0 : m0.length < l.length := by have := hml; simp at this; omega
      have hm1 : m0.length < 1000000 := by omega
      have hm2 : m0.length ≤ c := by omega
      have hcz : (c : Int) ≤ 9223372036854775807 := by omega
      clear hR hA hm hb hx hml hcc hl
      by_cases hx0 : x = 0
      · subst hx0
        go_wp2
        go_round
        case rel => exact ⟨m0, rfl, by rw [← HM.out, Nm.trim_snoc_zero], HB.out, by omega⟩
        case measure => simp
      · have hxb : (x == 0) = false := by simp [hx0]
        go_wp2
        go_ret
        exact ⟨by rw [← HM.out, Nm.trim_snoc hx0]; simp, rfl⟩

theorem numD_trim {w : World} {base : Nat} {v : Value} {l : List Int} {N : Nat} (h : OwnsInts w base v l) (ht : Nm.trim l = Nm.grp 10 N) (hl : l.length ≤ 1000000) :
    Calls Tryz.prog 157 #[v] w fun e w' => (∃ v', e = .returned v' ∧ NumD w' v' N ∧ ∀ b, v'.ownBlock = some b → base ≤ b) ∧ w = w' := by
  obtain ⟨A, c, rfl, h1, h2, h3⟩ := slAt_owns h
  have hbase : ∀ b, (Value.slice A l.length c).ownBlock = some b → base ≤ b := fun b hb => ((show w.ownsRow base 3 1 _ _ _ from h).lt b hb).1
  refine (trimD_any A c l w h1 hl h2 h3.1).mono ?_
  rintro e w' ⟨rfl, rfl⟩
  obtain ⟨m, hm⟩ := trim_pre' l
  have hle : (Nm.trim l).length ≤ l.length := by (conv => rhs; rw [hm]); simp
  refine ⟨⟨_, rfl, ⟨A, c, by rw [ht], ?_, by rw [← ht]; omega, h3⟩, fun b hb => hbase b (by cases A with
    | none => cases hb
    | some a => exact hb)⟩, rfl⟩
  rw [← ht]
  exact SlAt.pre (m := m) (by rw [← hm]; exact h1)

set_option maxRecDepth 100000 in
set_option maxHeartbeats 2000000 in
theorem orderL_any (A A' : Option Addr) (c c' : Nat) (l m : List Int) (w : World) (h1 : SlAt w A l) (h2 : SlAt w A' m) (hl : l.length ≤ 1000000) (hm : m.length ≤ 1000000) :
    Calls Tryz.prog 132 #[.slice A l.length c, .slice A' m.length c'] w fun e w' => e = .returned (.int .i64 (Nm.cmpL l m)) ∧ Below w.heap.size w w' := by
  by_cases hne : l.length = m.length
  · have HNE := Lib.hid hne
    have hne2 : ¬ ((l.length : Int) ≠ (m.length : Int)) := by omega
    have hnb : ((l.length : Int) != (m.length : Int)) = false := by rw [hne]; simp
    have hw : IntKind.i64.wrap ((l.length : Int) - 1) = (l.length : Int) - 1 := IntWalk.i64_in _ (by omega)
    clear hne hne2
    go_enter Tryz.func132, Tryz.ntmps132
    go_wp2
    go_loopw [5] (fun s wr => ∃ k : Nat, s = .int .i64 ((k : Int) - 1) ∧ k ≤ l.length ∧ Aside (Nm.cmpFrom l m l.length = Nm.cmpFrom l m k ∧ Below w.heap.size w wr)) (fun s _ => (intOf s + 1).toNat)
    case atStart => exact ⟨l.length, rfl, Nat.le_refl _, rfl, Below.refl _ _⟩
    case round =>
      obtain ⟨k, rfl, hk, has⟩ := hrel
      obtain ⟨hcf, hB⟩ := has.out
      have HC := Lib.hid (And.intro hcf hB)
      clear has hcf
      cases k with
      | zero =>
        go_wp2
        go_ret
        exact ⟨by unfold Nm.cmpL; rw [if_pos HNE.out, HC.out.1]; rfl, HC.out.2⟩
      | succ k =>
        obtain ⟨b, rfl, hb⟩ : ∃ b, A = some ⟨b, 0, none⟩ ∧ IntsAt w b l := by
          rcases h1 with h' | h'
          · rw [h'] at hk; simp at hk
          · exact h'
        obtain ⟨b', rfl, hb'⟩ : ∃ b, A' = some ⟨b, 0, none⟩ ∧ IntsAt w b m := by
          rcases h2 with h' | h'
          · have := HNE.out; rw [h'] at this; simp at this; rw [this] at hk; simp at hk
          · exact h'
        have e1 := cell_below hB (hb.2 k (by omega))
        have e2 := cell_below hB (hb'.2 k (by have := HNE.out; omega))
        have hkl : (k : Int) < (l.length : Int) := by omega
        have hkm : (k : Int) < (m.length : Int) := by have := HNE.out; omega
        have hks : (((k + 1 : Nat) : Int) - 1) = (k : Int) := by omega
        rw [hks]
        have hcs : Nm.cmpFrom l m (k + 1) = if l.getD k 0 = m.getD k 0 then Nm.cmpFrom l m k else Nm.sgn (l.getD k 0) (m.getD k 0) := rfl
        have HCS := Lib.hid hcs
        generalize l.getD k 0 = x at *
        generalize m.getD k 0 = y at *
        clear hcs hb hb' h1 h2 hks hB
        by_cases hxy : x = y
        · subst hxy
          have hcs2 := HCS.out
          rw [if_pos rfl] at hcs2
          have HD := Lib.hid hcs2
          clear hcs2
          go_wp2
          go_quiet (fail)
          go_wp2
          go_roundw
          case rel => exact ⟨k, rfl, by omega, by rw [HC.out.1, HD.out], HC.out.2.trans ((below_drewN'' _ _).mono HC.out.2.size)⟩
          case measure => simp [intOf] <;> omega
        · have hxb : (x != y) = true := by simp [hxy]
          have hcs2 := HCS.out
          rw [if_neg hxy] at hcs2
          have HD := Lib.hid hcs2
          clear hcs2
          by_cases hlt : x < y
          · have hs : Nm.sgn x y = -1 := by unfold Nm.sgn; rw [if_pos hlt]
            have HS := Lib.hid hs
            clear hs hxy
            go_wp2
            go_quiet (fail)
            go_wp2
            go_quiet (fail)
            go_wp2
            go_ret
            exact ⟨by unfold Nm.cmpL; rw [if_pos HNE.out, HC.out.1, HD.out, HS.out]; rfl, HC.out.2.trans (((below_drewN'' _ _).trans ((below_drewN'' _ _).mono (Nat.le_refl _))).mono HC.out.2.size)⟩
          · have hs : Nm.sgn x y = 1 := by unfold Nm.sgn; rw [if_neg hlt, if_pos (by omega)]
            have HS := Lib.hid hs
            clear hs hxy
            go_wp2
            go_quiet (fail)
            go_wp2
            go_quiet (fail)
            go_wp2
            go_ret
            exact ⟨by unfold Nm.cmpL; rw [if_pos HNE.out, HC.out.1, HD.out, HS.out]; rfl, HC.out.2.trans (((below_drewN'' _ _).trans ((below_drewN'' _ _).mono (Nat.le_refl _))).mono HC.out.2.size)⟩
  · have hnb : ((l.length : Int) != (m.length : Int)) = true := by simp; omega
    have hcm : Nm.cmpL l m = Nm.sgn l.length m.length := by unfold Nm.cmpL; rw [if_neg hne]
    rw [hcm]
    clear hcm
    by_cases hlt : (l.length : Int) < (m.length : Int)
    · have hs : Nm.sgn l.length m.length = -1 := by unfold Nm.sgn; rw [if_pos hlt]
      rw [hs]
      clear hs hne
      go_enter Tryz.func132, Tryz.ntmps132
      go_wp2
      go_ret
      exact ⟨rfl, Below.refl _ _⟩
    · have hs : Nm.sgn l.length m.length = 1 := by unfold Nm.sgn; rw [if_neg hlt, if_pos (by omega)]
      rw [hs]
      clear hs hne
      go_enter Tryz.func132, Tryz.ntmps132
      go_wp2
      go_ret
      exact ⟨rfl, Below.refl _ _⟩

theorem order_any (M N : Nat) (v u : Value) (w : World) (hv : NumD w v M) (hu : NumD w u N) (lM : (Nm.grp 10 M).length ≤ 10000) (lN : (Nm.grp 10 N).length ≤ 10000) :
    Calls Tryz.prog 132 #[v, u] w fun e w' => e = .returned (.int .i64 (Nm.sgn M N)) ∧ Below w.heap.size w w' := by
  obtain ⟨A, c, rfl, h1, h2, h3, _⟩ := hv
  obtain ⟨A', c', rfl, k1, k2, k3, _⟩ := hu
  have h := orderL_any A A' c c' _ _ w h1 k1 (by omega) (by omega)
  rw [Nm.cmpL_grp (by omega)] at h
  exact h
end Go.Proofs.YtbenflnpnohcjaaGreatDoor

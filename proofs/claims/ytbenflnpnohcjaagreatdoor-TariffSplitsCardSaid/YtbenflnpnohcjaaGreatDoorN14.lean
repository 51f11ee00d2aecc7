/- Two integers out of two strings: both, Compare. Compare, Valid, FromInt of package integer; the text of every integer. -/
import Derived.Test.YtbenflnpnohcjaaGreatDoorN12
namespace Go.Proofs.YtbenflnpnohcjaaGreatDoor
open Go.RowKit Go.Shelf

theorem results_c2t {P : Program} {fn : Func} {p q u : Tmp} {ty : TypeId} (h : fn.results = #[.cell p ty, .cell q ty, .tmp u]) (tmps : Array Value) (w : World) (g k : Nat) (t : TypeId) (cs ds : Array Value) (fr fs : Nat × Nat) (d : TypeDesc)
    (hp : tmps.getD p undef = .pointer (some ⟨g, 0, none⟩)) (hq : tmps.getD q undef = .pointer (some ⟨k, 0, none⟩)) (hg : w.heap[g]? = some (.cells cs t fr)) (hk : w.heap[k]? = some (.cells ds t fs))
    (hu : P.underlying ty = some d) (hd : (match d with | .struct _ | .array _ _ => true | _ => false) = true) (hi : (P.info? ty).map (·.size) = some cs.size) (hi2 : (P.info? ty).map (·.size) = some ds.size) :
    (results fn tmps).run P w = .ok (.tuple #[.agg cs, .agg ds, tmps.getD u undef]) w := by
  have hp' : tmps[p]?.getD undef = .pointer (some ⟨g, 0, none⟩) := by simpa using hp
  have hq' : tmps[q]?.getD undef = .pointer (some ⟨k, 0, none⟩) := by simpa using hq
  simp [results, h, hp', hq', asAddr, run_loadVar_row w g t ty cs fr d hg hu hd hi, run_loadVar_row w k t ty ds fs d hk hu hd hi2]

/-- A number with its sign, as a value. -/
def SgV (W : World) (x : Value) (z : Int) : Prop := ∃ v, x = .agg #[.bool (decide (z < 0)), v] ∧ NumV W v z.natAbs
theorem SgV.below {w w' : World} {v : Value} {z : Int} (h : SgV w v z) (hb : Below w.heap.size w w') : SgV w' v z := by
  obtain ⟨x, h1, h2⟩ := h
  exact ⟨x, h1, h2.below hb⟩
theorem tx_ok (z : Int) (h : z.natAbs < Nm.lim) : (Nm.Tx z).size ≤ 201 := by
  have h1 := (Nm.dec_len_le _).2 h
  show (Lib.itoa z).toArray.size ≤ 201
  rw [List.size_toArray]
  by_cases h2 : z < 0
  · rw [Nm.itoa_neg h2, List.length_cons]; omega
  · rw [Nm.itoa_pos (by omega)]; omega
theorem isValid_tx (z : Int) (h : z.natAbs < Nm.lim) (w : World) : Calls Tryz.prog 112 #[.string (Nm.Tx z)] w fun e w' => e = .returned (.bool true) ∧ Below w.heap.size w w' :=
  isValid_any _ (by have := tx_ok z h; omega) true ⟨fun _ => ⟨z, rfl, h⟩, fun _ => rfl⟩ w
/-- A fresh variable of type signed, in parts. -/
structure FreshSg (W : World) (B : Nat) : Prop where
  hp : W.heap[B]? = some (.cells #[.bool false, .slice none 0 0] 114 (0, 0))
  c0 : W.cell? ⟨B, 0, none⟩ = some (.bool false)
  c1 : W.cell? ⟨B, 1, none⟩ = some (.slice none 0 0)
  f0 : W.frozen? ⟨B, 0, none⟩ = false
  f1 : W.frozen? ⟨B, 1, none⟩ = false
theorem FreshSg.of {W : World} {B : Nat} (h : W.heap[B]? = some (.cells #[.bool false, .slice none 0 0] 114 (0, 0))) : FreshSg W B :=
  ⟨h, by simp [World.cell?, h], by simp [World.cell?, h], by simp [World.frozen?, h], by simp [World.frozen?, h]⟩
theorem NumV.sets {W W' : World} {v : Value} {N : Nat} (h : NumV W v N) {B : Nat} (hk : KpS (fun k _ => k = B ∨ k = B + 1) W W') (hB : ∀ b, v.ownBlock = some b → b ≠ B ∧ b ≠ B + 1) : NumV W' v N := by
  obtain ⟨A, c, rfl, q1, q2⟩ := h
  refine ⟨A, c, rfl, q1.kps hk ?_, q2⟩
  intro ad had _ t h
  have := hB ad.block (by rw [had]; rfl)
  omega

set_option maxRecDepth 100000 in
set_option maxHeartbeats 2000000 in
theorem both_any (a b : Int) (ha : a.natAbs < Nm.lim) (hb : b.natAbs < Nm.lim) (w : World) :
    Calls Tryz.prog 87 #[.string (Nm.Tx a), .string (Nm.Tx b)] w fun e w' => (∃ x y, e = .returned (.tuple #[x, y, .bool true]) ∧ SgV w' x a ∧ SgV w' y b) ∧ Below w.heap.size w w' := by
  have HV1 := Lib.hid (fun W => isValid_tx a ha W)
  have HV2 := Lib.hid (fun W => isValid_tx b hb W)
  have HP1 := Lib.hid (fun W => parse_any a ha W)
  have HP2 := Lib.hid (fun W => parse_any b hb W)
  generalize hta : Nm.Tx a = ta at *
  generalize htb : Nm.Tx b = tb at *
  have HS := Lib.hid (And.intro hta htb)
  clear hta htb
  have HCH := Lib.hid (show ∀ w1 w2 w3 w4, Below ((w.alloc (.cells #[.bool false, .slice none 0 0] 114)).alloc (.cells #[.bool false, .slice none 0 0] 114)).heap.size ((w.alloc (.cells #[.bool false, .slice none 0 0] 114)).alloc (.cells #[.bool false, .slice none 0 0] 114)) w1 → Below w1.heap.size w1 w2 → Below w2.heap.size w2 w3 → Below w3.heap.size w3 w4 →
      FreshSg w4 w.heap.size ∧ FreshSg w4 (w.heap.size + 1) ∧ Below w.heap.size w w4 ∧ w.heap.size + 2 ≤ w2.heap.size ∧ w.heap.size + 2 ≤ w3.heap.size from by
    intro w1 w2 w3 w4 h1 h2 h3 h4
    have hs : ((w.alloc (.cells #[.bool false, .slice none 0 0] 114)).alloc (.cells #[.bool false, .slice none 0 0] 114)).heap.size = w.heap.size + 2 := by simp
    have e1 : ((w.alloc (.cells #[.bool false, .slice none 0 0] 114)).alloc (.cells #[.bool false, .slice none 0 0] 114)).heap[w.heap.size]? = some (.cells #[.bool false, .slice none 0 0] 114 (0, 0)) := by
      rw [heap_past' _ _ (by simp), heap_at' _ _ rfl]
    have e2 : ((w.alloc (.cells #[.bool false, .slice none 0 0] 114)).alloc (.cells #[.bool false, .slice none 0 0] 114)).heap[w.heap.size + 1]? = some (.cells #[.bool false, .slice none 0 0] 114 (0, 0)) := heap_at' _ _ (by simp)
    have hB0 : Below w.heap.size w ((w.alloc (.cells #[.bool false, .slice none 0 0] 114)).alloc (.cells #[.bool false, .slice none 0 0] 114)) := ((Below.refl _ w).alloc (Nat.le_refl _) _).alloc (by simp) _
    generalize ((w.alloc (.cells #[.bool false, .slice none 0 0] 114)).alloc (.cells #[.bool false, .slice none 0 0] 114)) = W0 at *
    have g1 := h1.size
    have g2 := h2.size
    have g3 := h3.size
    have h12 : Below W0.heap.size W0 w2 := h1.trans (h2.mono g1)
    have h13 := h12.trans (h3.mono h12.size)
    have h14 := h13.trans (h4.mono h13.size)
    exact ⟨.of ((h14.block _ (by omega)).trans e1), .of ((h14.block _ (by omega)).trans e2), hB0.trans (h14.mono (by omega)), by omega, by omega⟩)
  go_enter Tryz.func87, Tryz.ntmps87
  go_wp2_with (first | (go_at_call 112; (with_reducible refine (HV1.out _).mono ?_); rintro e w1 ⟨rfl, hb1⟩) | (go_at_call 112; (with_reducible refine (HV2.out _).mono ?_); rintro e w2 ⟨rfl, hb2⟩) | (go_at_call 113; (with_reducible refine (HP1.out _).mono ?_); rintro e w3 ⟨⟨v1, rfl, hv1, ho1⟩, hb3⟩; have HN1 := Lib.hid (And.intro hv1 ho1); obtain ⟨A1, k1, hveq, _⟩ := hv1; subst hveq) | (go_at_call 113; (with_reducible refine (HP2.out _).mono ?_); rintro e w4 ⟨⟨v2, rfl, hv2, ho2⟩, hb4⟩; have HN2 := Lib.hid (And.intro hv2 ho2); obtain ⟨A2, k2, hveq, _⟩ := hv2; subst hveq; obtain ⟨⟨_, a0, a1, a2, a3⟩, ⟨_, b0, b1, b2, b3⟩, _⟩ := HCH.out _ _ _ _ hb1 hb2 hb3 hb4))
  obtain ⟨x1, x2, hB4, hs2, hs3⟩ := HCH.out _ _ _ _ hb1 hb2 hb3 hb4
  have t0 := sc_at w4 ⟨w.heap.size, 0, none⟩ (.bool (decide (a < 0))) rfl x1.hp
  have t1 := sc_at _ ⟨w.heap.size, 1, none⟩ (.slice A1 (Nm.grp 10000 a.natAbs).length k1) rfl t0
  have t2 := (sc_other ((w4.setCell ⟨w.heap.size, 0, none⟩ (.bool (decide (a < 0)))).setCell ⟨w.heap.size, 1, none⟩ (.slice A1 (Nm.grp 10000 a.natAbs).length k1)) ⟨w.heap.size + 1, 0, none⟩ w.heap.size (.bool (decide (b < 0))) (by simp)).trans t1
  have t3 := (sc_other _ ⟨w.heap.size + 1, 1, none⟩ w.heap.size (.slice A2 (Nm.grp 10000 b.natAbs).length k2) (by simp)).trans t2
  have u0 := (sc_other w4 ⟨w.heap.size, 0, none⟩ (w.heap.size + 1) (.bool (decide (a < 0))) (by simp)).trans x2.hp
  have u1 := (sc_other _ ⟨w.heap.size, 1, none⟩ (w.heap.size + 1) (.slice A1 (Nm.grp 10000 a.natAbs).length k1) (by simp)).trans u0
  have u2 := sc_at _ ⟨w.heap.size + 1, 0, none⟩ (.bool (decide (b < 0))) rfl u1
  have u3 := sc_at _ ⟨w.heap.size + 1, 1, none⟩ (.slice A2 (Nm.grp 10000 b.natAbs).length k2) rfl u2
  have hk := (((((KpS.refl (fun k _ => k = w.heap.size ∨ k = w.heap.size + 1) w4).setCell (p := ⟨w.heap.size, 0, none⟩) (fun _ _ _ _ => .inl rfl) (.bool (decide (a < 0)))).setCell (p := ⟨w.heap.size, 1, none⟩) (fun _ _ _ _ => .inl rfl) (.slice A1 (Nm.grp 10000 a.natAbs).length k1)).setCell (p := ⟨w.heap.size + 1, 0, none⟩) (fun _ _ _ _ => .inr rfl) (.bool (decide (b < 0)))).setCell (p := ⟨w.heap.size + 1, 1, none⟩) (fun _ _ _ _ => .inr rfl) (.slice A2 (Nm.grp 10000 b.natAbs).length k2))
  refine bodyPost_ret (results_c2t rfl _ _ _ _ _ _ _ _ _ _ rfl rfl t3 u3 Tryz.underlying114 rfl (by kernel_rfl) (by kernel_rfl)) rfl ⟨⟨.agg #[.bool (decide (a < 0)), .slice A1 (Nm.grp 10000 a.natAbs).length k1], .agg #[.bool (decide (b < 0)), .slice A2 (Nm.grp 10000 b.natAbs).length k2], rfl, ⟨_, rfl, ?_⟩, ⟨_, rfl, ?_⟩⟩, ?_⟩
  · exact (HN1.out.1.below hb4).sets hk (fun b hb => by have := HN1.out.2 b hb; omega)
  · exact HN2.out.1.sets hk (fun b hb => by have := HN2.out.2 b hb; omega)
  · exact (((hB4.setCell (p := ⟨w.heap.size, 0, none⟩) (by simp) _).setCell (p := ⟨w.heap.size, 1, none⟩) (by simp) _).setCell (p := ⟨w.heap.size + 1, 0, none⟩) (by simp) _).setCell (p := ⟨w.heap.size + 1, 1, none⟩) (by simp) _
end Go.Proofs.YtbenflnpnohcjaaGreatDoor

namespace Go.Proofs.YtbenflnpnohcjaaGreatDoor
open Go.RowKit Go.Shelf

theorem valid92 (s : ByteArray) (hs : s.size ≤ 9223372036854775807) (b : Bool) (hb : b = true ↔ ∃ z, Nm.IsI s z) (w : World) :
    Calls Tryz.prog 92 #[.string s] w fun e w' => e = .returned (.bool b) ∧ Below w.heap.size w w' := by
  have H := Lib.hid (isValid_any s hs b hb w)
  clear hb
  go_enter Tryz.func92, Tryz.ntmps92
  go_wp2_with (go_at_call 112; refine H.out.mono ?_; rintro e w1 ⟨rfl, hb1⟩)
  go_ret
  exact ⟨rfl, hb1⟩

theorem fromInt_any (n : Int) (h0 : -9223372036854775808 ≤ n) (h1 : n ≤ 9223372036854775807) (w : World) (ht : Tab w) :
    Calls Tryz.prog 42 #[.int .i64 n] w fun e w' => e = .returned (.string (Nm.Tx n)) ∧ Below w.heap.size w w' := by
  have H := Lib.hid (Tryz.strconv_Itoa n h0 h1 w ht)
  clear ht
  go_enter Tryz.func42, Tryz.ntmps42
  go_wp2_with (go_at_call 69; refine H.out.mono ?_; rintro e w1 ⟨rfl, k, os, rfl⟩)
  go_ret
  exact ⟨rfl, Lib.below_grow _ w (Nat.le_refl _) k os⟩

set_option maxRecDepth 100000 in
set_option maxHeartbeats 1000000 in
theorem text_any (neg : Bool) (N : Nat) (v : Value) (w : World) (hv : NumV w v N) (lN : (Nm.grp 10000 N).length ≤ 10000) (ht : Tab w) :
    Calls Tryz.prog 89 #[.agg #[.bool neg, v]] w fun e w' => e = .returned (if N < Nm.lim then .tuple #[.string (Nm.Tx (Nm.sg neg N)), .int .i64 0] else .tuple #[.string ⟨#[]⟩, .int .i64 30]) ∧ Below w.heap.size w w' := by
  by_cases hN : N = 0
  · subst hN
    obtain ⟨A, c, rfl, h1, h2, h3, h4⟩ := hv
    rw [Nm.tx_zero, if_pos (show 0 < Nm.lim from by unfold Nm.lim; exact Nat.pos_of_ne_zero (by decide))]
    have hl : (Nm.grp 10000 0).length = 0 := by rw [Nm.grp_zero]; rfl
    clear ht h1 h2
    go_enter Tryz.func89, Tryz.ntmps89
    go_wp2
    go_ret2
    exact ⟨rfl, (Below.refl _ w).alloc (Nat.le_refl _) _⟩
  · exact text_pos neg N hN v w hv lN ht
theorem len_lim {z : Int} (h : z.natAbs < Nm.lim) : (Nm.grp 10000 z.natAbs).length ≤ 50 := by
  refine grp_len_of_lt ?_
  have : Nm.lim = 10000 ^ 50 := by unfold Nm.lim; decide
  rw [← this]; exact h

theorem below_al2 (W : World) (o1 o2 : Obj) : Below W.heap.size W ((W.alloc o1).alloc o2) := ((Below.refl _ W).alloc (Nat.le_refl _) _).alloc (by simp) _
theorem cmp_al (M N : Nat) (v u : Value) (W : World) (o1 o2 : Obj) (hv : NumV W v M) (hu : NumV W u N) (lM : (Nm.grp 10000 M).length ≤ 10000) (lN : (Nm.grp 10000 N).length ≤ 10000) :
    Calls Tryz.prog 98 #[v, u] ((W.alloc o1).alloc o2) fun e w' => e = .returned (.int .i64 (Nm.sgn M N)) ∧ Below W.heap.size W w' := by
  have hb := below_al2 W o1 o2
  refine (compare_any M N v u _ (hv.below hb) (hu.below hb) lM lN).mono ?_
  rintro e w' ⟨rfl, h⟩
  exact ⟨rfl, hb.trans (h.mono hb.size)⟩

set_option maxRecDepth 100000 in
set_option maxHeartbeats 2000000 in
theorem compare72 (a b : Int) (ha : a.natAbs < Nm.lim) (hb : b.natAbs < Nm.lim) (w : World) :
    Calls Tryz.prog 72 #[.string (Nm.Tx a), .string (Nm.Tx b)] w fun e w' => e = .returned (.int .i64 (Nm.sgn a b)) ∧ Below w.heap.size w w' := by
  have HB := Lib.hid (both_any a b ha hb w)
  have la := len_lim ha
  have lb := len_lim hb
  have HCAB := Lib.hid (fun v u W o1 o2 h1 h2 => cmp_al a.natAbs b.natAbs v u W o1 o2 h1 h2 (by omega) (by omega))
  have HCBA := Lib.hid (fun v u W o1 o2 h1 h2 => cmp_al b.natAbs a.natAbs v u W o1 o2 h1 h2 (by omega) (by omega))
  clear la lb ha hb
  by_cases na : a < 0 <;> by_cases nb : b < 0
  · have da : decide (a < 0) = true := decide_eq_true na
    have db : decide (b < 0) = true := decide_eq_true nb
    have hs : Nm.sgn (b.natAbs : Int) (a.natAbs : Int) = Nm.sgn a b := by
      unfold Nm.sgn
      split <;> split <;> (try split) <;> (try split) <;> (first | rfl | (exfalso; omega))
    clear na nb
    go_enter Tryz.func72, Tryz.ntmps72
    go_wp2_with (first | (go_at_call 87; refine HB.out.mono ?_; rintro e w1 ⟨⟨x, y, rfl, ⟨va, rfl, hva⟩, ⟨vb, rfl, hvb⟩⟩, hb1⟩; have HA2 := Lib.hid hva; have HB2 := Lib.hid hvb; obtain ⟨A1, k1, hveq, _⟩ := hva; subst hveq; obtain ⟨A2, k2, hveq, _⟩ := hvb; subst hveq) | (go_at_call 98; refine (HCBA.out _ _ _ _ _ HB2.out HA2.out).mono ?_; rintro e w2 ⟨rfl, hb2⟩))
    go_ret
    exact ⟨rfl, hb1.trans (hb2.mono hb1.size)⟩
  · have da : decide (a < 0) = true := decide_eq_true na
    have db : decide (b < 0) = false := decide_eq_false nb
    have hs : -1 = Nm.sgn a b := by
      unfold Nm.sgn
      rw [if_pos (by omega)]
    rw [← hs]
    clear na nb hs
    go_enter Tryz.func72, Tryz.ntmps72
    go_wp2_with (first | (go_at_call 87; refine HB.out.mono ?_; rintro e w1 ⟨⟨x, y, rfl, ⟨va, rfl, hva⟩, ⟨vb, rfl, hvb⟩⟩, hb1⟩; have HA2 := Lib.hid hva; have HB2 := Lib.hid hvb; obtain ⟨A1, k1, hveq, _⟩ := hva; subst hveq; obtain ⟨A2, k2, hveq, _⟩ := hvb; subst hveq))
    go_ret
    exact ⟨rfl, hb1.trans ((below_al2 _ _ _).mono hb1.size)⟩
  · have da : decide (a < 0) = false := decide_eq_false na
    have db : decide (b < 0) = true := decide_eq_true nb
    have hs : 1 = Nm.sgn a b := by
      unfold Nm.sgn
      rw [if_neg (by omega), if_pos (by omega)]
    rw [← hs]
    clear na nb hs
    go_enter Tryz.func72, Tryz.ntmps72
    go_wp2_with (first | (go_at_call 87; refine HB.out.mono ?_; rintro e w1 ⟨⟨x, y, rfl, ⟨va, rfl, hva⟩, ⟨vb, rfl, hvb⟩⟩, hb1⟩; have HA2 := Lib.hid hva; have HB2 := Lib.hid hvb; obtain ⟨A1, k1, hveq, _⟩ := hva; subst hveq; obtain ⟨A2, k2, hveq, _⟩ := hvb; subst hveq))
    go_ret
    exact ⟨rfl, hb1.trans ((below_al2 _ _ _).mono hb1.size)⟩
  · have da : decide (a < 0) = false := decide_eq_false na
    have db : decide (b < 0) = false := decide_eq_false nb
    have hs : Nm.sgn (a.natAbs : Int) (b.natAbs : Int) = Nm.sgn a b := by
      rw [show (a.natAbs : Int) = a by omega, show (b.natAbs : Int) = b by omega]
    clear na nb
    go_enter Tryz.func72, Tryz.ntmps72
    go_wp2_with (first | (go_at_call 87; refine HB.out.mono ?_; rintro e w1 ⟨⟨x, y, rfl, ⟨va, rfl, hva⟩, ⟨vb, rfl, hvb⟩⟩, hb1⟩; have HA2 := Lib.hid hva; have HB2 := Lib.hid hvb; obtain ⟨A1, k1, hveq, _⟩ := hva; subst hveq; obtain ⟨A2, k2, hveq, _⟩ := hvb; subst hveq) | (go_at_call 98; refine (HCAB.out _ _ _ _ _ HA2.out HB2.out).mono ?_; rintro e w2 ⟨rfl, hb2⟩))
    go_ret
    exact ⟨rfl, hb1.trans (hb2.mono hb1.size)⟩
end Go.Proofs.YtbenflnpnohcjaaGreatDoor

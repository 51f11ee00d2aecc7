/- The contract of tariff.Splits. -/
import Derived.Test.YtbenflnpnohcjaaGreatDoorT7
import Derived.Laws.StructEq
import Derived.Test.YtbenflnpnohcjaaGreatDoorRq
import Derived.Shelf.RegionOpen
import Derived.Deep.DeepCutAuto
namespace Go.Proofs.YtbenflnpnohcjaaGreatDoor
open Go.RowKit Go.Shelf

attribute [local go_sem] Oper.semAt_some

namespace Tf
theorem chain_length {f : Int → Int} : ∀ {l : List Pc} {a b : Int}, Chain f a b l → (l.length : Int) ≤ b - a
  | [], a, b, h => by have : a = b := h; simp; omega
  | p :: l, a, b, h => by
    obtain ⟨c1, c2, c3, c4, c5⟩ := h
    have := chain_length c5
    simp only [List.length_cons]; omega
theorem merged_snoc (pre : List Pc) (p : Pc) : merged (pre ++ [p]) = addPc (merged pre) p := by simp [merged]
theorem addPc_length (out : List Pc) (p : Pc) : (addPc out p).length ≤ out.length + 1 := by
  unfold addPc
  split
  · split
    · simp
    · simp
  · simp
theorem merged_length (pre : List Pc) : (merged pre).length ≤ pre.length := by
  have key : ∀ (l out : List Pc), (l.foldl addPc out).length ≤ out.length + l.length := by
    intro l
    induction l with
    | nil => intro out; simp
    | cons p l ih => intro out; have := ih (addPc out p); have := addPc_length out p; simp only [List.foldl_cons, List.length_cons]; omega
  have := key pre []
  simpa [merged] using this
end Tf
theorem Tryz.info64 : (Tryz.prog.info? 64).map (fun i => (i.zero, i.size, i.bytes)) = some (some (.agg #[.int .i64 0, .int .i64 0, .int .i64 0]), 3, 24) := by kernel_rfl

/-- Priced as cells. -/
def flatP (l : List Tf.Pc) : List Value := l.flatMap fun p => [.int .i64 p.frm, .int .i64 p.til, .int .i64 p.price]
theorem flatP_length (l : List Tf.Pc) : (flatP l).length = l.length * 3 := by
  induction l with
  | nil => rfl
  | cons p l ih => simp only [flatP, List.flatMap_cons, List.length_append, List.length_cons, List.length_nil] at ih ⊢; omega
theorem flatP_append (l m : List Tf.Pc) : flatP (l ++ m) = flatP l ++ flatP m := by simp [flatP]
def OwnsPcs (w : World) (base : Nat) (v : Value) (l : List Tf.Pc) : Prop := w.ownsRow base 64 3 v l.length (flatP l)

theorem flatP_one (p : Tf.Pc) : flatP [p] = [.int .i64 p.frm, .int .i64 p.til, .int .i64 p.price] := rfl
theorem flatP_set (m : List Tf.Pc) (q : Tf.Pc) (t : Int) : (flatP (m ++ [q])).set (m.length * 3 + 1) (.int .i64 t) = flatP (m ++ [⟨q.frm, t, q.price⟩]) := by
  rw [flatP_append, flatP_append, List.set_append_right _ _ (by rw [flatP_length]; omega), flatP_length]
  have : m.length * 3 + 1 - m.length * 3 = 1 := by omega
  rw [this]; rfl
theorem flatP_get (m : List Tf.Pc) (q : Tf.Pc) (i : Nat) (hi : i < 3) : (flatP (m ++ [q]))[m.length * 3 + i]? = (flatP [q])[i]? := by
  rw [flatP_append, List.getElem?_append_right (by rw [flatP_length]; omega), flatP_length]
  congr 1; omega

theorem cell_three_new (w : World) (a b c : Value) (t : TypeId) : ∀ j u, [a, b, c][j]? = some u → (w.alloc (.cells #[a, b, c] t)).cell? ((⟨w.heap.size, 0, none⟩ : Addr).add j) = some u := by
  intro j u hj
  match j, hj with
  | 0, hj => simp at hj; subst hj; simp [Addr.add]
  | 1, hj => simp at hj; subst hj; simp [Addr.add]
  | 2, hj => simp at hj; subst hj; simp [Addr.add]

/-- The splits' own memory: the box of the list, and the list's row. -/
def SpS (H : Nat) (k : Nat) (t : TypeId) : Prop := H ≤ k ∧ (t = 64 ∨ t = 47)

theorem row_type {W : World} {base e size n : Nat} {v : Value} {xs : List Value} (h : W.ownsRow base e size v n xs) : ∀ r, v.ownBlock = some r → base ≤ r ∧ ∀ c t f, W.heap[r]? = some (.cells c t f) → t = e := by
  intro r hr
  rcases h.2 with ⟨rfl, _⟩ | ⟨g, cap, cur, rfl, hb, hg, _⟩
  · simp [Value.ownBlock] at hr
  · obtain rfl : g = r := by simpa [Value.ownBlock] using hr
    exact ⟨hb, fun c t f h' => by rw [hg] at h'; cases h'; rfl⟩

theorem appP {W w1 : World} {H Bo : Nat} {v v' : Value} {m : List Tf.Pc} {p : Tf.Pc} {tmp : Obj} (hv : Boxed W Bo 47 v) (hrow : W.ownsRow H 64 3 v m.length (flatP m)) (hH : H ≤ W.heap.size) (hB : H ≤ Bo)
    (hown' : w1.ownsRow H 64 3 v' (m.length + 1) (flatP m ++ [.int .i64 p.frm, .int .i64 p.til, .int .i64 p.price])) (hgrow : (W.alloc tmp).grownBy w1 v.ownBlock) :
    Boxed w1 Bo 47 v ∧ Boxed (w1.setCell ⟨Bo, 0, none⟩ v') Bo 47 v' ∧ (w1.setCell ⟨Bo, 0, none⟩ v').ownsRow H 64 3 v' (m ++ [p]).length (flatP (m ++ [p])) ∧ KeepsOthers W (w1.setCell ⟨Bo, 0, none⟩ v') ∧ KpS (SpS H) W (w1.setCell ⟨Bo, 0, none⟩ v') ∧ Below H W (w1.setCell ⟨Bo, 0, none⟩ v') := by
  obtain ⟨h1, h2, h3, h4, h5⟩ := hv.appended (by decide) hrow hH hB hown' hgrow
  refine ⟨h1, h2, ?_, h4, ?_, h5⟩
  · rw [flatP_append, flatP_one]; simpa using h3
  · refine (((KpS.refl _ W).alloc tmp).grown hgrow (fun r hr c t f hc => ?_)).setCell (fun c t f hc => ?_) v'
    · have := row_type (hrow.alloc tmp) r hr
      exact ⟨this.1, .inl (this.2 c t f hc)⟩
    · simp only at hc
      rw [show w1.heap[Bo]? = _ from h1] at hc
      cases hc
      exact ⟨hB, .inr rfl⟩

theorem Tryz.eqPriced (f t p p' : Int) (w : World) : (binOp .eql 64 (.agg #[.int .i64 f, .int .i64 t, .int .i64 p]) (.agg #[.int .i64 f, .int .i64 t, .int .i64 p'])).run Tryz.prog w = .ok (.bool (p == p')) w := by
  obtain ⟨d, hd⟩ : ∃ d : Nat, (10000 : Nat) = d + 1 + 1 + 1 := ⟨9997, rfl⟩
  rw [run_eql_struct, hd, run_equalIn_agg w (d + 1 + 1) 64 _ _ (by kernel_rfl) (by kernel_rfl)]
  clear hd
  simp only [Program.fieldsOf, Tryz.underlying64]
  have e28 : (Op.equalIn (d + 1 + 1) 28 (.agg #[.int .i64 f, .int .i64 t]) (.agg #[.int .i64 f, .int .i64 t])).run Tryz.prog w = .ok true w := by
    rw [run_equalIn_agg w (d + 1) 28 _ _ (by kernel_rfl) (by kernel_rfl)]
    simp only [Program.fieldsOf, Tryz.underlying28]
    have u3 := Tryz.underlying3
    have a3 := Tryz.isAgg3
    have z3 := Tryz.sizeOf3
    go_simp
  have u3 := Tryz.underlying3
  have a3 := Tryz.isAgg3
  have z3 := Tryz.sizeOf3
  have a28 := Tryz.isAgg28
  have z28 := Tryz.sizeOf28
  go_simp
  by_cases h : p = p' <;> simp [h]

theorem boxes_xs {w wv : World} {v0 v1 u0 u1 : Value} {t t' : TypeId} (hb : Below ((w.alloc (.cells #[v0, v1] t)).alloc (.cells #[u0, u1] t')).heap.size ((w.alloc (.cells #[v0, v1] t)).alloc (.cells #[u0, u1] t')) wv) :
    w.heap.size + 1 < wv.heap.size ∧ wv.cell? ⟨w.heap.size, 0, none⟩ = some v0 ∧ wv.cell? ⟨w.heap.size, 1, none⟩ = some v1 ∧ wv.cell? ⟨w.heap.size + 1, 0, none⟩ = some u0 ∧ wv.cell? ⟨w.heap.size + 1, 1, none⟩ = some u1 := by
  have hz := hb.size
  simp only [World.size_alloc] at hz
  refine ⟨by omega, ?_, ?_, ?_, ?_⟩
  · rw [hb.cell (by simp; omega)]; simp [go_sem]
  · rw [hb.cell (by simp; omega)]; simp [go_sem]
  · rw [hb.cell (by simp)]; simp [go_sem]
  · rw [hb.cell (by simp)]; simp [go_sem]

set_option maxRecDepth 100000 in
set_option maxHeartbeats 4000000 in
theorem splits_any (A : Option Addr) (c : Nat) (x : Tf.Tariff) (hl : x.rates.length ≤ 9223372036854775807) (z a b : Int) (w : World) (hR : RatesAt w A x.rates) :
    Calls Tryz.prog 30 #[.agg #[.slice A x.rates.length c, .int .i64 x.base], .int .i64 z, .agg #[.int .i64 a, .int .i64 b]] w fun e w' =>
      (∃ v, e = .returned (.tuple #[v, .int .i64 (if goodB x z a b = true then 0 else 370)]) ∧ OwnsPcs w' w.heap.size v (if goodB x z a b = true then Tf.merged (Tf.pcsT x z a b) else [])) ∧ Below w.heap.size w w' := by
  have hb1 : Below w.heap.size w ((w.alloc (.cells #[.slice A x.rates.length c, .int .i64 x.base] 26)).alloc (.cells #[.int .i64 a, .int .i64 b] 28)) := ((Below.refl _ w).alloc (Nat.le_refl _) _).alloc (by simp) _
  have hg := isGood_any A c x hl z a b _ (hR.below hb1)
  cases h1 : goodB x z a b with
  | false =>
    rw [h1] at hg
    rw [if_neg (by simp), if_neg (by simp)]
    clear hR
    go_enter Tryz.func30, Tryz.ntmps30
    go_wp2_with (go_at_call 56; refine hg.mono ?_; rintro e w' ⟨rfl, hb⟩)
    go_ret2
    exact ⟨⟨_, rfl, World.ownsRow_nil _ _ _ _⟩, hb1.trans (hb.mono (by simp; omega))⟩
  | true =>
    rw [h1] at hg
    rw [if_pos rfl, if_pos rfl]
    have h2 := h1
    simp only [goodB, spellB, zoneB, Bool.and_eq_true, decide_eq_true_eq, inB_iff] at h2
    obtain ⟨hx, ⟨hz1, hz2⟩, ha, hab, hb⟩ := h2
    have hsp := fun W => spells_any A x.rates.length c x.base z a b W
    have HSP := Lib.hid hsp
    clear hsp
    have HR1 := Lib.hid (hR.below hb1)
    refine wideC' (n := 10) ?_
    refine callsIn_of_wp_marks Tryz.func30 rfl trivial ?_ rfl
    simp only [Tryz.ntmps30, List.size_toArray, List.length_cons, List.length_nil, Nat.reduceAdd, Nat.reduceSub, Array.replicate_succ, Array.replicate_zero, List.push_toArray, List.append_toArray, List.nil_append, List.cons_append]
    gi_wp2_with (first | (refine ⟨trivial, ?_⟩; gi_at_call 56; refine (wideC hg).mono ?_; rintro e wv ⟨rfl, hb2⟩; obtain ⟨hzz, k10, k11, k20, k21⟩ := boxes_xs hb2; have hn1 : w.heap.size < wv.heap.size := (by omega); have hn2 : w.heap.size ≠ wv.heap.size := (by omega); have hn3 : w.heap.size + 1 ≠ wv.heap.size := (by omega)) | (refine ⟨trivial, ?_⟩; gi_at_call 61; refine (wideC (HSP.out _)).mono ?_; rintro e w1 ⟨rfl, rfl⟩))
    have k20' : wv.heap.size + 1 + 1 = wv.heap.size + 2 := rfl
    obtain ⟨W0, hW0⟩ : ∃ W0, ((((wv.alloc (.cells #[.slice none 0 0] 47)).alloc (.cells #[.slice A x.rates.length c, .int .i64 x.base] 26)).alloc (.cells #[.int .i64 z] 3)).alloc (.cells #[.int .i64 a, .int .i64 b] 28)) = W0 := ⟨_, rfl⟩
    rw [hW0]
    clear k20'
    have hB0v : Below wv.heap.size wv W0 := by
      rw [← hW0]
      exact (((((Below.refl _ wv).alloc (Nat.le_refl _) _).alloc (by simp) _).alloc (by simp; omega) _).alloc (by simp; omega) _)
    have hBv : Below w.heap.size w wv := hb1.trans (hb2.mono (by simp; omega))
    have hB0 : Below w.heap.size w W0 := hBv.trans (hB0v.mono (by omega))
    have hsz : W0.heap.size = wv.heap.size + 4 := by rw [← hW0]; simp
    have bO : Boxed W0 wv.heap.size 47 (.slice none 0 0) := by
      rw [← hW0]
      exact (((Boxed.new wv 47 (.slice none 0 0)).alloc _).alloc _).alloc _
    have hin : SpIn x A c z a b (wv.heap.size + 1) (wv.heap.size + 1 + 2) (wv.heap.size + 1 + 1) W0 := by
      refine ⟨?_, ?_, ?_, ?_, ?_, hR.below hB0, ?_, ?_, ?_⟩ <;> rw [← hW0]
      · simp [go_sem]
      · simp [go_sem]
      · simp [go_sem]
      · simp [go_sem]
      · simp [go_sem]
      · exact ((typed_at (wv.alloc (.cells #[.slice none 0 0] 47)) _ 26 (by simp)).alloc _).alloc _
      · exact typed_at (((wv.alloc (.cells #[.slice none 0 0] 47)).alloc (.cells #[.slice A x.rates.length c, .int .i64 x.base] 26)).alloc (.cells #[.int .i64 z] 3)) _ 28 (by simp)
      · exact (typed_at ((wv.alloc (.cells #[.slice none 0 0] 47)).alloc (.cells #[.slice A x.rates.length c, .int .i64 x.base] 26)) _ 3 (by simp)).alloc _
    have hlen9 : (Tf.pcsT x z a b).length ≤ 10000000 := by
      have h0 := Tf.pcsT_chain hx z (a := a) (b := b) hab
      have := Tf.chain_length h0
      omega
    obtain ⟨i0, hi0, hz0, hz1', hz2'⟩ := info_parts Tryz.info64
    clear hW0 HSP hg k10 k11 k20 k21
    refine wpIn_rangeFunc_ownH rfl (by omega) (gf := 80) (lb := #[.pointer (some ⟨wv.heap.size + 1, 0, none⟩), .pointer (some ⟨wv.heap.size + 1 + 2, 0, none⟩), .pointer (some ⟨wv.heap.size + 1 + 1, 0, none⟩)]) rfl trivial (enters_of Tryz.func80 (by kernel_rfl) rfl)
      (spells1_stops (SpS w.heap.size) 9 (by omega) x hx A c z a b (by omega) (by omega) ha (by omega) hab _ _ _ W0 hin (by simp [SpS]) (by simp [SpS]) (by simp [SpS])
        (fun ad had hne => by
          rcases hR with h | ⟨b', off, h1, h2, _⟩
          · exact absurd h hne
          · rw [had] at h1; cases h1; intro t ht; have := ht.1; simp only at this; omega) (fun k hk => by simp [SpS]))
      kpS_t kpS_b (Below.refl _ _) (fun _ => rfl)
      (fun pre W => (∃ v, Boxed W wv.heap.size 47 v ∧ W.ownsRow w.heap.size 64 3 v (Tf.merged pre).length (flatP (Tf.merged pre)) ∧ (Tf.merged pre = [] → v = .slice none 0 0)) ∧ Below w.heap.size w W)
      (fun _ _ _ => False)
      (OwnFrom.and (Own.from (holdsRow_own w.heap.size wv.heap.size 47 64 3 (fun pre => (Tf.merged pre).length) (fun pre => flatP (Tf.merged pre)) (fun pre v => Tf.merged pre = [] → v = .slice none 0 0)) _) (ownFrom_below (Nat.le_refl _) (by omega)))
      (fun _ _ _ _ _ hs _ _ => hs)
      ⟨⟨_, bO, World.ownsRow_nil _ _ _ _, fun _ => rfl⟩, hB0⟩
      (fun p a' W => ∃ Bx, wv.heap.size < Bx ∧ W.heap[Bx]? = some (.cells #[.int .i64 p.frm, .int .i64 p.til, .int .i64 p.price] 64 (0, 0)) ∧ a' = { tmps := #[.agg #[.slice A x.rates.length c, .int .i64 x.base], .int .i64 z, .agg #[.int .i64 a, .int .i64 b], .pointer (some ⟨w.heap.size, 0, none⟩), undef, .pointer (some ⟨w.heap.size + 1, 0, none⟩), .slice none 0 0, .int .i64 0, .pointer (some ⟨wv.heap.size, 0, none⟩), .pointer (some ⟨Bx, 0, none⟩), undef, .agg #[.slice A x.rates.length c, .int .i64 x.base], .int .i64 z, .agg #[.int .i64 a, .int .i64 b], .bool true, .bool false, .agg #[.slice A x.rates.length c, .int .i64 x.base], .int .i64 z, .agg #[.int .i64 a, .int .i64 b], .func (.func 80) #[] #[.pointer (some ⟨wv.heap.size + 1, 0, none⟩), .pointer (some ⟨wv.heap.size + 1 + 2, 0, none⟩), .pointer (some ⟨wv.heap.size + 1 + 1, 0, none⟩)], .agg #[.int .i64 p.frm, .int .i64 p.til, .int .i64 p.price], undef, undef, undef, undef, undef, undef, undef, undef, undef, undef, undef, undef, undef, undef, undef, undef, undef, undef, undef, undef, undef, undef, undef, undef, undef, undef, undef, undef, undef, undef, undef, undef, undef, undef, undef], defers := [] })
      (fun p a' => Own.from (fun s X Y row hs hg hr => by
        obtain ⟨Bx, h1, h2, h3⟩ := hs
        exact ⟨Bx, h1, row_own Bx (fun _ : Unit => #[.int .i64 p.frm, .int .i64 p.til, .int .i64 p.price]) 64 (0, 0) s X Y row h2 hg hr, h3⟩) _)
      ?assign ?body ?done ?stop
    case assign =>
      rintro l pre p W K ⟨⟨v, hv, hrow, hnil⟩, hB⟩ hK
      have hsW := hB.size
      have hlt := hv.lt
      unfold encP
      gi_wp2
      exact hK _ _ ((KeepsOthers.alloc _ _).from _) ((KpS.refl _ W).alloc _) ⟨⟨v, hv.alloc _, hrow.alloc _, hnil⟩, hB.alloc (by omega) _⟩ ⟨W.heap.size, by omega, World.alloc_heap_new W _, rfl⟩
    case body =>
      rintro l pre p a' W hl hr ⟨⟨v, hv, hrow, hnil⟩, hB⟩ ⟨Bx, hBx, hpx, rfl⟩ hlen
      have hc := hv.cell
      have hf := hv.frozen
      have hsW := hB.size
      have r0 : W.cell? ⟨Bx, 0, none⟩ = some (.int .i64 p.frm) := by simp [World.cell?, hpx]
      have r1 : W.cell? ⟨Bx, 1, none⟩ = some (.int .i64 p.til) := by simp [World.cell?, hpx]
      have r2 : W.cell? ⟨Bx, 2, none⟩ = some (.int .i64 p.price) := by simp [World.cell?, hpx]
      have hml := Tf.merged_length pre
      have HM := Lib.hid (Tf.merged_snoc pre p)
      generalize Tf.merged pre = m at *
      have hmx : Tryz.prog.follows .mixedOrders = true := by kernel_rfl
      have hcs : m = [] ∨ ∃ m0 q, m = m0 ++ [q] := by
        rcases List.eq_nil_or_concat m with h | ⟨m0, q, h⟩
        · exact .inl h
        · exact .inr ⟨m0, q, by rw [h, List.concat_eq_append]⟩
      rcases hcs with rfl | ⟨m0, q, rfl⟩
      · obtain rfl := hnil rfl
        gi_wp2
        refine wpIn_region_quiet_litR (by kernel_rfl) (by kernel_rfl) (by kernel_rfl) ?_
        repeat (gi_big_quiet_step (fail))
        refine wpQuietIn_nil ?_
        intro _ hw'
        obtain ⟨nq, hw''⟩ := hw'
        subst hw''
        have bq : ∀ B, Below B W (W.drewN nq) := fun B => below_drewN (Below.refl B W) nq
        gi_wp2_with (gi_at_builtin; refine wpListIn_append_own _ rfl _ _ 47 rfl w.heap.size 64 i0 (.agg #[.int .i64 0, .int .i64 0, .int .i64 0]) 3 24 Tryz.underlying47 hi0 hz0 hz1' hz2' rfl (by decide) _ _ _ rfl (World.ownsRow_nil _ _ _ _) ⟨W.heap.size, 0, none⟩ 1 1 [.int .i64 p.frm, .int .i64 p.til, .int .i64 p.price] rfl rfl ?c1 ?c2 ?c3 ?c4 ?c5 ?_; rotate_left 5; intro v' w1 hown' hgrow _; obtain ⟨g', cap', rfl⟩ := ownsRow_succ hown'; obtain ⟨k0, k1, k2, k3, k4, k5⟩ := appP (W := W.drewN nq) (H := w.heap.size) (Bo := wv.heap.size) (v := .slice none 0 0) (m := []) (p := p) hv hrow hsW (by omega) hown' hgrow; have hc1 := k0.cell; have hf1 := k0.frozen)
        case c1 => exact cell_three_new (W.drewN nq) _ _ _ _
        case c2 => intro u hu; simp at hu; rcases hu with rfl | rfl | rfl <;> rfl
        case c3 => unfold maxLen; simp
        case c4 => simp
        case c5 => simp; omega
        refine ⟨((keepsOthers_below (bq _)).trans k3).from _, (KpS.of_below (bq _)).trans k4, ⟨⟨_, k1, ?_, ?_⟩, hB.trans ((bq _).trans k5)⟩⟩
        · rw [HM.out, show Tf.addPc [] p = [] ++ [p] from rfl]; exact k2
        · rw [HM.out, show Tf.addPc [] p = [] ++ [p] from rfl]; intro h; simp at h
      · have hln : (m0 ++ [q]).length = m0.length + 1 := by simp
        rw [hln] at hrow hml
        obtain ⟨g, cap, rfl⟩ := ownsRow_succ hrow
        have hg := row_type hrow g rfl
        have hgt : Typed W g 64 := by
          rcases hrow.2 with ⟨h1, _⟩ | ⟨g', cap', cur, he, _, h1, _⟩
          · cases h1
          · cases he; exact ⟨_, _, h1⟩
        have q0 : W.cell? ⟨g, m0.length * 3, none⟩ = some (.int .i64 q.frm) := by
          rw [hrow.cellAt (m0.length * 3) (by omega)]; exact flatP_get m0 q 0 (by omega)
        have q1 : W.cell? ⟨g, m0.length * 3 + 1, none⟩ = some (.int .i64 q.til) := by
          rw [hrow.cellAt (m0.length * 3 + 1) (by omega)]; exact flatP_get m0 q 1 (by omega)
        have q2 : W.cell? ⟨g, m0.length * 3 + 2, none⟩ = some (.int .i64 q.price) := by
          rw [hrow.cellAt (m0.length * 3 + 2) (by omega)]; exact flatP_get m0 q 2 (by omega)
        have qf : W.frozen? ⟨g, m0.length * 3 + 1, none⟩ = false := hrow.frozenAt _
        have heq := fun W => Tryz.eqPriced q.frm q.til q.price p.price W
        have hk1 : (0 : Int) < (m0.length : Int) + 1 := by omega
        have HROW := Lib.hid hrow
        have HMM := Lib.hid hml
        have hmb : m0.length ≤ 10000000 := by omega
        clear hrow hml hnil
        by_cases hpp : q.price = p.price
        · have hpb : (q.price == p.price) = true := by simp [hpp]
          have HPP := Lib.hid hpp
          clear hpp
          gi_wp2
          refine wpIn_region_quiet_litR (by kernel_rfl) (by kernel_rfl) (by kernel_rfl) ?_
          repeat (gi_big_quiet_step (fail))
          refine wpQuietIn_nil ?_
          intro _ hw'
          obtain ⟨nq, hw''⟩ := hw'
          subst hw''
          have bq : ∀ B, Below B W (W.drewN nq) := fun B => below_drewN (Below.refl B W) nq
          gi_wp2
          obtain ⟨st1, st2⟩ := (show (W.drewN nq).ownsRow w.heap.size 64 3 (.slice (some ⟨g, 0, none⟩) (m0.length + 1) cap) (m0.length + 1) (flatP (m0 ++ [q])) from HROW.out).stored (m0.length * 3 + 1) (.int .i64 p.til)
          rw [flatP_set] at st1
          have hadd : Tf.addPc (m0 ++ [q]) p = m0 ++ [⟨q.frm, p.til, q.price⟩] := by simp [Tf.addPc, HPP.out]
          have hvb : Boxed ((W.drewN nq).setCell ⟨g, m0.length * 3 + 1, none⟩ (.int .i64 p.til)) wv.heap.size 47 (.slice (some ⟨g, 0, none⟩) (m0.length + 1) cap) :=
            (show Boxed (W.drewN nq) wv.heap.size 47 _ from hv).kept st2 (hv.not_row (by decide) HROW.out)
          refine ⟨((keepsOthers_below (bq _)).trans (KeepsOthers.setCell (W.drewN nq) _ _)).from _, ((KpS.of_below (bq _)).setCell (p := ⟨g, m0.length * 3 + 1, none⟩) (fun c t f hcc => ⟨hg.1, .inl (hg.2 c t f hcc)⟩) _), ⟨⟨_, hvb, ?_, ?_⟩, (hB.trans (bq _)).setCell (p := ⟨g, m0.length * 3 + 1, none⟩) hg.1 _⟩⟩
          · rw [HM.out, hadd, List.length_append]; exact st1
          · rw [HM.out, hadd]; intro h; simp at h
        · have hpb : (q.price == p.price) = false := by simp [hpp]
          have HPP := Lib.hid hpp
          clear hpp
          gi_wp2
          refine wpIn_region_quiet_litR (by kernel_rfl) (by kernel_rfl) (by kernel_rfl) ?_
          repeat (gi_big_quiet_step (fail))
          refine wpQuietIn_nil ?_
          intro _ hw'
          obtain ⟨nq, hw''⟩ := hw'
          subst hw''
          have bq : ∀ B, Below B W (W.drewN nq) := fun B => below_drewN (Below.refl B W) nq
          gi_wp2_with (gi_at_builtin; refine wpListIn_append_own _ rfl _ _ 47 rfl w.heap.size 64 i0 (.agg #[.int .i64 0, .int .i64 0, .int .i64 0]) 3 24 Tryz.underlying47 hi0 hz0 hz1' hz2' rfl (by decide) _ _ _ rfl ((HROW.out : (W.drewN nq).ownsRow _ _ _ _ _ _).alloc _) ⟨W.heap.size, 0, none⟩ 1 1 [.int .i64 p.frm, .int .i64 p.til, .int .i64 p.price] rfl rfl ?c1 ?c2 ?c3 ?c4 ?c5 ?_; rotate_left 5; intro v' w1 hown' hgrow _; obtain ⟨g', cap', rfl⟩ := ownsRow_succ hown'; obtain ⟨k0, k1, k2, k3, k4, k5⟩ := appP (W := W.drewN nq) (H := w.heap.size) (Bo := wv.heap.size) (v := .slice (some ⟨g, 0, none⟩) (m0.length + 1) cap) (m := m0 ++ [q]) (p := p) hv (by rw [List.length_append]; exact HROW.out) hsW (by omega) (by rw [List.length_append]; exact hown') hgrow; have hc1 := k0.cell; have hf1 := k0.frozen)
          case c1 => exact cell_three_new (W.drewN nq) _ _ _ _
          case c2 => intro u hu; simp at hu; rcases hu with rfl | rfl | rfl <;> rfl
          case c3 => unfold maxLen; omega
          case c4 => omega
          case c5 => simp; omega
          have hadd : Tf.addPc (m0 ++ [q]) p = m0 ++ [q] ++ [p] := by simp [Tf.addPc, HPP.out]
          refine ⟨((keepsOthers_below (bq _)).trans k3).from _, (KpS.of_below (bq _)).trans k4, ⟨⟨_, k1, ?_, ?_⟩, hB.trans ((bq _).trans k5)⟩⟩
          · rw [HM.out, hadd]; exact k2
          · rw [HM.out, hadd]; intro h; simp at h
    case done =>
      rintro D ys W hD rfl ⟨⟨v, hv, hrow, hnil⟩, hB⟩ hK
      have hc := hv.cell
      gi_wp2
      refine ⟨by simp, .inl ⟨_, _, rfl, run_takeDeferred hK, ?_⟩⟩
      exact ⟨_, results_tmp2 rfl _ _ _, ⟨v, rfl, ownsRow_putObj hrow _ hK rfl⟩, hB.trans (belowK_b (w := w) (Nat.le_refl _) W D _ _ (by omega) hK rfl rfl)⟩
    case stop =>
      rintro D cc pre W hD _ h _
      exact h.elim
end Go.Proofs.YtbenflnpnohcjaaGreatDoor

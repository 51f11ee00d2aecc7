/- The law TariffSplits: its walk. -/
import Derived.Test.YtbenflnpnohcjaaGreatDoorL7
import Derived.Test.YtbenflnpnohcjaaGreatDoorL6
namespace Go.Proofs.YtbenflnpnohcjaaGreatDoor
open Go.RowKit Go.Shelf

theorem borders_ok {W : World} {x : Tf.Tariff} {A : Option Addr} (h : TarAt W x A) (c : Nat) :
    Calls Tryz.prog 39 #[.agg #[.slice A x.rates.length c, .int .i64 x.base]] W fun e w' => (∃ l A' c', e = .returned (.slice A' l.length c') ∧ SlAt w' A' l ∧ Tf.BdOk l ∧ (∀ r ∈ x.rates, r.frm ∈ l ∧ r.til ∈ l) ∧ l.length ≤ 22) ∧ Below W.heap.size W w' :=
  (borders_any A c x h.ok W h.rates).mono fun _ _ ⟨⟨l, A', c', h1, h2, h3, h4, h5⟩, hb⟩ => ⟨⟨l, A', c', h1, h2, h3, h4, by have := ((Tf.okT_iff x).1 h.ok).2.1; omega⟩, hb⟩

theorem runs_nil {f : Int → Int} {a : Int} {l : List Tf.Pc} (h : Tf.Runs f a a l) : l = [] := by
  cases l with
  | nil => rfl
  | cons p l => obtain ⟨h1, h2, h3, -, -⟩ := h.1; omega

/-- What a round of the law on splits keeps. -/
structure SpI (W0 wr : World) (l : List Tf.Pc) (b : Int) (i : Nat) (last : Int) : Prop where
  below : Below W0.heap.size W0 wr
  at_ : ∀ h : i < l.length, l[i].frm = last
  fin : i = l.length → last = b

theorem any_succ (l : List Int) (k : Nat) (hk : k < l.length) (s : Int) : (l.take (k + 1)).any (· == s) = ((l.take k).any (· == s) || l.getD k 0 == s) := by
  rw [List.take_succ_eq_append_getElem hk, List.any_append, List.getD_eq_getElem?_getD, List.getElem?_eq_getElem hk]
  simp

set_option maxRecDepth 100000 in
set_option maxHeartbeats 4000000 in
theorem splitsLaw_any (A : Option Addr) (n c : Nat) (y : Nat → Nat → Int) (bs z0 x0 y0 t0 : Int) (w : World) (ht : Tab w) (hX : XsAt w A n y) (hn : n ≤ 9223372036854775807) (hb : rng bs) (h0 : rng z0) (h1 : rng x0) (h2 : rng y0) (h3 : rng t0) :
    Calls Tryz.prog 7 #[.int .i64 bs, .slice A n c, .int .i64 z0, .int .i64 x0, .int .i64 y0, .int .i64 t0] w fun e w' => e = .returned (.bool true) ∧ Below w.heap.size w w' := by
  have HS := Lib.hid (sane_any w ht)
  have HM := Lib.hid (fun W (h : Below w.heap.size w W) => made_ok (W := W) A n c y bs hb (hX.below h) hn)
  have HZ := Lib.hid (fun W => zoned_any z0 h0.1 h0.2 W)
  have HD := Lib.hid (fun W => during_any x0 y0 h1.1 h1.2 h2.1 h2.2 W)
  have HR := Lib.hid h3
  clear ht hX hb h0 h1 h2 h3 hn
  go_enter Tryz.func7, Tryz.ntmps7
  go_wp2_with (first
    | (go_at_call 14; (with_reducible refine HS.out.mono ?_); rintro e w1 ⟨rfl, hb1⟩)
    | (go_at_call 15; (with_reducible refine (HM.out _ hb1).mono ?_); rintro e w2 ⟨⟨x, A', c', rfl, hT, -, -, -⟩, hb2⟩; have C2 := Ctx.new (c := c') hb1 hb2 hT)
    | (go_at_call 20; (with_reducible refine (HZ.out _).mono ?_); rintro e wz ⟨⟨z, rfl, hz1, hz2⟩, rfl⟩)
    | (go_at_call 23; (with_reducible refine (HD.out _).mono ?_); rintro e w3 ⟨⟨a, b, rfl, ha0, ha1, hab, hb0⟩, hb3⟩; have C3 := (C2.go hb3).go (below_al1 w3 (.cells #[.int .i64 a, .int .i64 b] 28)); have p1 := C3.x0; have p2 := C3.x1))
  refine (splits_ok C3.tar c' z a b ⟨hz1, hz2⟩ ha0 hab (by omega)).mono ?_
  rintro e w4 ⟨⟨l, A4, c4, rfl, hP4, hrun⟩, hb4⟩
  have HRUN := Lib.hid hrun
  have C4 := C3.go hb4
  have p3 := C4.x0
  have p4 := C4.x1
  obtain ⟨s0, s1, -, -⟩ := new_two _ _ _ _ _ hb4
  clear hrun
  go_wp2_with fail
  refine (sum_ok C4.tar c' z a b ⟨hz1, hz2⟩ ha0 hab (by omega)).mono ?_
  rintro e w5 ⟨rfl, hb5⟩
  have C5 := C4.go hb5
  have p5 := C5.x0
  have p6 := C5.x1
  have s2 := cell_below hb5 s0
  have s3 := cell_below hb5 s1
  have hP5 := hP4.below hb5
  obtain ⟨f1, f2, -, -, -, -⟩ := rounds_fact C5.tar.ok z ha0 hab hb0
  by_cases hne : a = b
  · subst hne
    obtain rfl := runs_nil HRUN.out
    rw [Tf.S_self]
    have HF := Lib.hid C5.below
    clear f1 f2
    go_wp2
    go_ret
    exact ⟨rfl, HF.out⟩
  · have hlt : a < b := by omega
    have hneb : (a == b) = false := by simp [hne]
    obtain ⟨sm, hsm⟩ : ∃ v, Tf.S (Tf.price x z) a b = v := ⟨_, rfl⟩
    rw [hsm] at f1 f2 ⊢
    have HSM := Lib.hid hsm
    have HNE := Lib.hid hne
    clear hsm hne
    have y1 : IntKind.i64.wrap (b - a) = b - a := IntWalk.i64_in _ (by omega)
    have HPK := Lib.hid (fun W => lpick_eq t0 (b - a) HR.out (by omega) (by omega) W)
    have r0 := Tf.pk_range t0 (n := b - a) (by omega)
    obtain ⟨r, hr⟩ : ∃ r, Tf.pk t0 (b - a) = r := ⟨_, rfl⟩
    rw [hr] at HPK r0
    have y2 : IntKind.i64.wrap (a + r) = a + r := IntWalk.i64_in _ (by omega)
    clear hr
    go_wp2
    go_quiet ((go_at_call 36; exact Calls.quiet_of_same (HPK.out _)))
    obtain ⟨t, ht⟩ : ∃ v, a + r = v := ⟨_, rfl⟩
    have ht2 : a ≤ t ∧ t < b := by omega
    have HTT := Lib.hid ht
    have C6 := C5.go (below_drewN'' w5 nq)
    have q4 := C6.x0
    have q5 := C6.x1
    have s4 := cell_below (below_drewN'' w5 nq) s2
    have s5 := cell_below (below_drewN'' w5 nq) s3
    have hP6 := hP5.below (below_drewN'' w5 nq)
    clear y1 y2 ht
    go_wp2_with fail
    rw [HTT.out]
    clear r0
    refine (price_ok C6.tar c' z t ⟨hz1, hz2⟩ (by omega) (by omega)).mono ?_
    rintro e w7 ⟨rfl, hb7⟩
    have C7 := C6.go hb7
    have q6 := C7.x0
    have q7 := C7.x1
    have s6 := cell_below hb7 s4
    have s7 := cell_below hb7 s5
    have hP7 := hP6.below hb7
    obtain ⟨pr, hpr⟩ : ∃ v, Tf.price x z t = v := ⟨_, rfl⟩
    rw [hpr]
    have HPR := Lib.hid hpr
    clear hpr
    go_wp2_with fail
    refine (borders_ok C7.tar c').mono ?_
    rintro e w8 ⟨⟨lb, A8, c8, rfl, hB8, hbk, hcov, hlb⟩, hb8⟩
    have C8 := C7.go hb8
    have s8 := cell_below hb8 s6
    have s9 := cell_below hb8 s7
    have hP8 := hP7.below hb8
    have hlen : (l.length : Int) ≤ 400000 := by
      have := Tf.chain_length HRUN.out.1
      omega
    have HC8 := Lib.hid (And.intro C8 (And.intro hP8 (And.intro hB8 (And.intro hbk (And.intro hcov (And.intro s8 s9))))))
    clear C2 C3 C4 C5 C6 C7 C8 hP4 hP5 hP6 hP7 hP8 hB8 hbk hcov p1 p2 p3 p4 p5 p6 q4 q5 q6 q7 s0 s1 s2 s3 s4 s5 s6 s7 hb1 hb2 hb3 hb4 hb5 hb7 hb8 HS HM HZ HD
    go_wp2
    clear s8 s9
    have hlbz : lb.length ≤ 22 := hlb
    have HI0 := Lib.hid (show SpI w8 w8 l b 0 a from ⟨Below.refl _ _, fun h => (HRUN.out.1.get 0 h).2.1 rfl, fun h => by
      have hl : l = [] := List.eq_nil_of_length_eq_zero h.symm
      have hr := HRUN.out.1
      rw [hl] at hr
      exact hr⟩)
    go_loopg [24, 25, 26] (l.length + 1) (fun gk v24 v25 v26 wr => ∃ (i : Nat) (last : Int), v26 = .int .i64 (i : Int) ∧ v24 = .int .i64 last ∧ v25 = .int .i64 (Tf.S (Tf.price x z) a last) ∧ i ≤ l.length ∧ l.length - i < gk ∧ a ≤ last ∧ last ≤ b ∧ Aside (SpI w8 wr l b i last))
    case atStart => exact ⟨0, a, rfl, rfl, by rw [Tf.S_self], Nat.zero_le _, by omega, Int.le_refl _, hab, HI0.out⟩
    case round =>
      obtain ⟨i, last, rfl, rfl, rfl, hi, hgk, hla, hlb2, I⟩ := hrel
      by_cases hil : i < l.length
      · obtain ⟨g1, g2, g3, g4, g5, g6, g7⟩ := Tf.runs_fact HC8.out.1.tar.ok HRUN.out i hil
        have hfl := I.out.at_ hil
        obtain ⟨p, hp⟩ : ∃ p, l[i] = p := ⟨_, rfl⟩
        have hpg : l[i]? = some p := by rw [List.getElem?_eq_getElem hil, hp]
        rw [hp] at g1 g2 g3 g4 g5 g6 g7 hfl
        obtain ⟨pf, pt, pp⟩ := p
        simp only at g1 g2 g3 g4 g5 g6 g7 hfl
        subst hfl
        obtain ⟨gb, rfl, hgb, hcp⟩ : ∃ b, A4 = some ⟨b, 0, none⟩ ∧ b < w8.heap.size ∧ ∀ j p, l[j]? = some p → ∀ i v, (cellsP p)[i]? = some v → w8.cell? ⟨b, j * 3 + i, none⟩ = some v := by
          rcases HC8.out.2.1 with h | h
          · rw [h] at hil; simp at hil
          · exact h
        have c0 : wr.cell? ⟨gb, i * 3, none⟩ = some (.int .i64 pf) := cell_below I.out.below (hcp i _ hpg 0 _ rfl)
        have c1 : wr.cell? ⟨gb, i * 3 + 1, none⟩ = some (.int .i64 pt) := cell_below I.out.below (hcp i _ hpg 1 _ rfl)
        have c2 : wr.cell? ⟨gb, i * 3 + 2, none⟩ = some (.int .i64 pp) := cell_below I.out.below (hcp i _ hpg 2 _ rfl)
        have hilz : (i : Int) < (l.length : Int) := by omega
        have hpp : 0 ≤ pp ∧ pp ≤ 1000000 := by
          have := Tf.price_bounds HC8.out.1.tar.ok z pf
          rw [g5 pf (Int.le_refl _) g1] at this
          exact this
        have hsum : Tf.S (Tf.price x z) a pt = Tf.S (Tf.price x z) a pf + pp * (pt - pf) := by
          rw [Tf.S_add (Tf.price x z) hla (Int.le_of_lt g1), Tf.S_const (Int.le_of_lt g1) (fun u h1 h2 => g5 u h1 h2)]
        obtain ⟨b1, b2, -, -, -, -⟩ := rounds_fact HC8.out.1.tar.ok z ha0 hla (by omega)
        obtain ⟨b3, b4, -, -, -, -⟩ := rounds_fact HC8.out.1.tar.ok z ha0 (by omega : a ≤ pt) (by omega)
        rw [hsum] at b3 b4
        obtain ⟨sv, hsv⟩ : ∃ v, Tf.S (Tf.price x z) a pf = v := ⟨_, rfl⟩
        rw [hsv] at b1 b2 b3 b4 hsum ⊢
        have hmul : 0 ≤ pp * (pt - pf) ∧ pp * (pt - pf) ≤ 400000000000 := by
          refine ⟨Int.mul_nonneg hpp.1 (by omega), ?_⟩
          have := Int.mul_le_mul hpp.2 (by omega : pt - pf ≤ 400000) (by omega) (by omega)
          omega
        have hnx : ∀ h : i + 1 < l.length, l[i + 1].frm = pt := fun h => by
          have := (HRUN.out.1.get i hil).2.2.1 h
          rw [hp] at this
          exact this
        have HG := Lib.hid (And.intro g5 (And.intro g6 (And.intro g7 (And.intro hsum (And.intro hsv hnx)))))
        have d1 : decide (pt ≤ pf) = false := decide_eq_false (by omega)
        clear g4 g5 g6 g7 hsum hsv hp hpg hnx
        have HCP := Lib.hid hcp
        clear hcp
        have hpr : pf ≤ t → t < pt → pp = pr := fun h1 h2 => by
          rw [← HG.out.1 t h1 h2, HPR.out]
        have HPP := Lib.hid hpr
        clear hpr
        by_cases hi0 : i = 0
        · subst hi0
          go_wp2
          go_quiet (fail)
          obtain ⟨W1, hW1⟩ : ∃ W, (wr.alloc (.cells #[.int .i64 pf, .int .i64 pt, .int .i64 pp] 64)).drewN nq = W := ⟨_, rfl⟩
          have hB1 : Below wr.heap.size wr W1 := by rw [← hW1]; exact bt (below_al1 wr _) (below_drewN'' _ nq)
          have e0 : W1.cell? ⟨wr.heap.size, 0, none⟩ = some (.int .i64 pf) := by rw [← hW1]; exact cell_below (below_drewN'' _ nq) (by simp [go_sem])
          have e1 : W1.cell? ⟨wr.heap.size, 1, none⟩ = some (.int .i64 pt) := by rw [← hW1]; exact cell_below (below_drewN'' _ nq) (by simp [go_sem])
          have e2 : W1.cell? ⟨wr.heap.size, 2, none⟩ = some (.int .i64 pp) := by rw [← hW1]; exact cell_below (below_drewN'' _ nq) (by simp [go_sem])
          rw [hW1]
          clear hW1
          go_upto_region 23 with (fail)
          go_cut [148] from 131 to 148 (fun v wx => v = .bool false ∧ wx = W1)
          case first =>
            rcases (show ¬ pf ≤ t ∨ (pf ≤ t ∧ ¬ t < pt) ∨ (pf ≤ t ∧ t < pt ∧ pp = pr) from by
              by_cases h1 : pf ≤ t
              · by_cases h2 : t < pt
                · exact .inr (.inr ⟨h1, h2, HPP.out h1 h2⟩)
                · exact .inr (.inl ⟨h1, h2⟩)
              · exact .inl h1) with h | ⟨h1, h2⟩ | ⟨h1, h2, h4⟩
            · go_wp2_with fail
              go_meet
              exact ⟨rfl, rfl⟩
            · go_wp2_with fail
              go_meet
              exact ⟨rfl, rfl⟩
            · have h5 : (pp != pr) = false := by simp [h4]
              have H4 := Lib.hid h4
              clear h4
              go_wp2_with fail
              go_meet
              exact ⟨rfl, rfl⟩
          case rest =>
            obtain ⟨rfl, rfl⟩ := hcut
            go_wp2
            go_roundg (l.length - 0)
            case measure => omega
            case rel =>
              obtain ⟨-, h6, -, h8, -, h10⟩ := HG.out
              exact ⟨0 + 1, pt, by go_num, rfl, by rw [h8], by omega, by omega, by omega, g3, ⟨I.out.below.trans (hB1.mono I.out.below.size), h10, h6⟩⟩
        · obtain ⟨m, hm⟩ : ∃ m, i = m + 1 := ⟨i - 1, by omega⟩
          obtain ⟨k1, k2, k3⟩ := HG.out.2.2.1 m hm
          have hml : m < l.length := by omega
          obtain ⟨qv, hqv⟩ : ∃ v, l[m]!.price = v := ⟨_, rfl⟩
          have c3 : wr.cell? ⟨gb, m * 3 + 2, none⟩ = some (.int .i64 qv) := by
            refine cell_below I.out.below (HCP.out m l[m]! ?_ 2 _ (by rw [← hqv]; rfl))
            rw [getElem!_pos l m hml, List.getElem?_eq_getElem hml]
          have c4 : (wr.alloc (.cells #[.int .i64 pf, .int .i64 pt, .int .i64 pp] 64)).cell? ⟨gb, m * 3 + 2, none⟩ = some (.int .i64 qv) := cell_below (below_al1 wr _) c3
          rw [hqv] at k2
          have hpq : (pp == qv) = false := by simp [k2]
          have hsec : (pf + z + 604800) % 86400 ∈ lb := by
            obtain ⟨-, -, -, hbk, hcov, -, -⟩ := HC8.out
            rcases k3 with h | ⟨r, hr, h | h⟩
            · rw [h, ← hbk.head]
              refine Tf.getD_mem (Nat.pos_of_ne_zero (fun e => ?_))
              have := hbk.last
              rw [List.eq_nil_of_length_eq_zero e] at this
              simp at this
            · rw [h]; exact (hcov r hr).1
            · rw [h]; exact (hcov r hr).2
          have HSEC := Lib.hid hsec
          have hiz0 : (0 : Int) < (i : Int) := by omega
          have hiz1 : 0 < i := by omega
          have w1' : IntKind.i64.wrap ((i : Int) - 1) = (m : Int) := by rw [IntWalk.i64_in _ (by omega)]; omega
          have hmz : (m : Int) < (l.length : Int) := by omega
          have HM' := Lib.hid hm
          clear k1 k2 k3 hqv hsec hm hi0
          go_wp2
          go_quiet (fail)
          obtain ⟨W1, hW1⟩ : ∃ W, (wr.alloc (.cells #[.int .i64 pf, .int .i64 pt, .int .i64 pp] 64)).drewN nq = W := ⟨_, rfl⟩
          have hB1 : Below wr.heap.size wr W1 := by rw [← hW1]; exact bt (below_al1 wr _) (below_drewN'' _ nq)
          have e0 : W1.cell? ⟨wr.heap.size, 0, none⟩ = some (.int .i64 pf) := by rw [← hW1]; exact cell_below (below_drewN'' _ nq) (by simp [go_sem])
          have e1 : W1.cell? ⟨wr.heap.size, 1, none⟩ = some (.int .i64 pt) := by rw [← hW1]; exact cell_below (below_drewN'' _ nq) (by simp [go_sem])
          have e2 : W1.cell? ⟨wr.heap.size, 2, none⟩ = some (.int .i64 pp) := by rw [← hW1]; exact cell_below (below_drewN'' _ nq) (by simp [go_sem])
          rw [hW1]
          clear hW1
          go_upto_region 23 with (fail)
          go_cut [148] from 131 to 148 (fun v wx => v = .bool false ∧ wx = W1)
          case first =>
            rcases (show ¬ pf ≤ t ∨ (pf ≤ t ∧ ¬ t < pt) ∨ (pf ≤ t ∧ t < pt ∧ pp = pr) from by
              by_cases h1 : pf ≤ t
              · by_cases h2 : t < pt
                · exact .inr (.inr ⟨h1, h2, HPP.out h1 h2⟩)
                · exact .inr (.inl ⟨h1, h2⟩)
              · exact .inl h1) with h | ⟨h1, h2⟩ | ⟨h1, h2, h4⟩
            · go_wp2_with fail
              go_meet
              exact ⟨rfl, rfl⟩
            · go_wp2_with fail
              go_meet
              exact ⟨rfl, rfl⟩
            · have h5 : (pp != pr) = false := by simp [h4]
              have H4 := Lib.hid h4
              clear h4
              go_wp2_with fail
              go_meet
              exact ⟨rfl, rfl⟩
          case rest =>
            obtain ⟨rfl, rfl⟩ := hcut
            clear w1'
            go_wp2
            obtain ⟨sec, hsc⟩ : ∃ v, (pf + z + 604800) % 86400 = v := ⟨_, rfl⟩
            rw [hsc] at HSEC ⊢
            clear hsc
            go_loop [29, 30] (fun v29 v30 => ∃ k : Nat, v30 = .int .i64 (k : Int) ∧ k ≤ lb.length ∧ v29 = .bool ((lb.take k).any (· == sec))) (fun _ v30 => lb.length - (intOf v30).toNat)
            case atStart => exact ⟨0, rfl, Nat.zero_le _, rfl⟩
            case round =>
              obtain ⟨k, rfl, hk, rfl⟩ := hrel
              by_cases hkl : k < lb.length
              · have hkz : (k : Int) < (lb.length : Int) := by omega
                obtain ⟨gB, rfl, hgB⟩ : ∃ b, A8 = some ⟨b, 0, none⟩ ∧ IntsAt w8 b lb := by
                  rcases HC8.out.2.2.1 with h' | h'
                  · rw [h'] at hkl; simp at hkl
                  · exact h'
                have ek := cell_below (I.out.below.trans (hB1.mono I.out.below.size)) (hgB.2 k hkl)
                have hsu := any_succ lb k hkl sec
                have HSU := Lib.hid hsu
                obtain ⟨yk, hyk⟩ : ∃ v, lb.getD k 0 = v := ⟨_, rfl⟩
                rw [hyk] at ek HSU
                obtain ⟨ab, hab'⟩ : ∃ v, (lb.take k).any (· == sec) = v := ⟨_, rfl⟩
                rw [hab'] at HSU ⊢
                clear hsu hgB hyk hab'
                cases ab with
                | true =>
                  go_wp2
                  go_round
                  case rel => exact ⟨k + 1, by go_num, by omega, by rw [HSU.out]; rfl⟩
                  case measure => simp [intOf] <;> omega
                | false =>
                  by_cases he : yk = sec
                  · have heb : (yk == sec) = true := by simp [he]
                    have HE := Lib.hid heb
                    clear he
                    go_wp2
                    go_round
                    case rel => exact ⟨k + 1, by go_num, by omega, by rw [HSU.out, HE.out]; rfl⟩
                    case measure => simp [intOf] <;> omega
                  · have heb : (yk == sec) = false := by simp [he]
                    have HE := Lib.hid heb
                    clear he
                    go_wp2
                    go_round
                    case rel => exact ⟨k + 1, by go_num, by omega, by rw [HSU.out, HE.out]; rfl⟩
                    case measure => simp [intOf] <;> omega
              · obtain rfl : k = lb.length := by omega
                have hkz : ¬ (lb.length : Int) < (lb.length : Int) := by omega
                have hany : (lb.take lb.length).any (· == sec) = true := by
                  rw [List.take_length, List.any_eq_true]
                  exact ⟨sec, HSEC.out, by simp⟩
                rw [hany]
                clear hany
                go_wp2
                go_roundg (l.length - i)
                case measure => omega
                case rel =>
                  obtain ⟨-, h6, -, h8, -, h10⟩ := HG.out
                  exact ⟨i + 1, pt, by go_num, rfl, by rw [h8], by omega, by omega, by omega, g3, ⟨I.out.below.trans (hB1.mono I.out.below.size), h10, h6⟩⟩
      · obtain rfl : i = l.length := by omega
        have hlast := I.out.fin rfl
        subst hlast
        rw [HSM.out]
        have hkz : ¬ (l.length : Int) < (l.length : Int) := by omega
        have hfin := HC8.out.1.below.trans (I.out.below.mono HC8.out.1.below.size)
        have HFIN := Lib.hid hfin
        have s0 := cell_below I.out.below HC8.out.2.2.2.2.2.1
        have s1 := cell_below I.out.below HC8.out.2.2.2.2.2.2
        clear hfin
        go_wp2
        go_ret
        exact ⟨rfl, HFIN.out⟩
end Go.Proofs.YtbenflnpnohcjaaGreatDoor

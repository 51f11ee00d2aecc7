/- The contract of tariff.spells: an iterator over the pieces of a spell. -/
import Derived.Test.YtbenflnpnohcjaaGreatDoorT3
import Derived.Test.YtbenflnpnohcjaaGreatDoorRf
namespace Go.Proofs.YtbenflnpnohcjaaGreatDoor
open Go.RowKit Go.Shelf

attribute [local go_sem] Oper.semAt_some

namespace Tf
theorem pieces_more (x : Tariff) {l : List Int} (hs : l.Pairwise (· < ·)) (hl : ∀ b ∈ l, b < 86400) (z b : Int) : ∀ (k m : Nat) (a : Int), (b - a).toNat ≤ k → (b - a).toNat ≤ m → pieces x l z b k a = pieces x l z b m a
  | 0, 0, _, _, _ => rfl
  | 0, m + 1, a, h, _ => by simp only [pieces]; rw [if_neg (by omega)]
  | k + 1, 0, a, _, h => by simp only [pieces]; rw [if_neg (by omega)]
  | k + 1, m + 1, a, h, h' => by
    simp only [pieces]
    by_cases c : a < b
    · have := upTo_gt hs hl (z := z) c
      rw [if_pos c, if_pos c, pieces_more x hs hl z b k m _ (by omega) (by omega)]
    · rw [if_neg c, if_neg c]
theorem pcsT_step (x : Tariff) (hx : okT x = true) (z : Int) {a b : Int} (h : a < b) : pcsT x z a b = ⟨a, upTo (chg x) z b a, price x z a⟩ :: pcsT x z (upTo (chg x) z b a) b := by
  have hs := chg_sorted x
  have hl := fun b hb => (chg_range hx b hb).2
  have := upTo_gt hs hl (z := z) h
  unfold pcsT pcs
  obtain ⟨k, hk⟩ : ∃ k, (b - a).toNat = k + 1 := ⟨(b - a).toNat - 1, by omega⟩
  rw [hk]
  simp only [pieces]
  rw [if_pos h, pieces_more x hs hl z b k _ _ (by omega) (Nat.le_refl _)]
theorem pcsT_nil (x : Tariff) (z : Int) {a b : Int} (h : ¬ a < b) : pcsT x z a b = [] := by
  unfold pcsT pcs
  have : (b - a).toNat = 0 := by omega
  rw [this]; rfl
end Tf

/-- A piece as a value. -/
def encP (p : Tf.Pc) : Array Value := #[.agg #[.int .i64 p.frm, .int .i64 p.til, .int .i64 p.price]]

theorem RatesAt.kps {S : Nat → TypeId → Prop} {w w' : World} {A : Option Addr} {l : List Tf.Rate} (h : RatesAt w A l) (hk : KpS S w w') (hS : ∀ ad, A = some ad → l ≠ [] → ∀ t, ¬ S ad.block t) : RatesAt w' A l := by
  by_cases hne : l = []
  · exact .inl hne
  rcases h with h | ⟨b, off, h1, h2, h3⟩
  · exact .inl h
  · exact .inr ⟨b, off, h1, Nat.lt_of_lt_of_le h2 hk.size, fun j hj i v hi => hk.cell (p := ⟨b, off + j * 4 + i, none⟩) (fun _ t _ _ => hS ⟨b, off, none⟩ h1 hne t) (h3 j hj i v hi)⟩

/-- What the iterator has captured: a tariff, a zone, a spell, in boxes. -/
structure SpIn (x : Tf.Tariff) (A : Option Addr) (c : Nat) (z a b : Int) (B1 B2 B3 : Nat) (w : World) : Prop where
  c10 : w.cell? ⟨B1, 0, none⟩ = some (.slice A x.rates.length c)
  c11 : w.cell? ⟨B1, 1, none⟩ = some (.int .i64 x.base)
  c20 : w.cell? ⟨B2, 0, none⟩ = some (.int .i64 a)
  c21 : w.cell? ⟨B2, 1, none⟩ = some (.int .i64 b)
  c30 : w.cell? ⟨B3, 0, none⟩ = some (.int .i64 z)
  rates : RatesAt w A x.rates
  t1 : Typed w B1 26
  t2 : Typed w B2 28
  t3 : Typed w B3 3

theorem cell_below {w w1 : World} (h : Below w.heap.size w w1) {a : Addr} {v : Value} (hc : w.cell? a = some v) : w1.cell? a = some v := (h.cell (World.block_lt_of_cell? w a hc)).trans hc

theorem SpIn.below {x : Tf.Tariff} {A : Option Addr} {c : Nat} {z a b : Int} {B1 B2 B3 : Nat} {w w' : World} (h : SpIn x A c z a b B1 B2 B3 w) (hb : Below w.heap.size w w') : SpIn x A c z a b B1 B2 B3 w' :=
  ⟨cell_below hb h.c10, cell_below hb h.c11, cell_below hb h.c20, cell_below hb h.c21, cell_below hb h.c30, h.rates.below hb, h.t1.below hb, h.t2.below hb, h.t3.below hb⟩
theorem SpIn.kps {S : Nat → TypeId → Prop} {x : Tf.Tariff} {A : Option Addr} {c : Nat} {z a b : Int} {B1 B2 B3 : Nat} {w w' : World} (h : SpIn x A c z a b B1 B2 B3 w) (hk : KpS S w w') (h1 : ¬ S B1 26) (h2 : ¬ S B2 28) (h3 : ¬ S B3 3) (hS : ∀ ad, A = some ad → x.rates ≠ [] → ∀ t, ¬ S ad.block t) : SpIn x A c z a b B1 B2 B3 w' :=
  ⟨hk.cell (h.t1.is h1) h.c10, hk.cell (h.t1.is h1) h.c11, hk.cell (h.t2.is h2) h.c20, hk.cell (h.t2.is h2) h.c21, hk.cell (h.t3.is h3) h.c30, h.rates.kps hk hS, h.t1.kps hk h1, h.t2.kps hk h2, h.t3.kps hk h3⟩

theorem search_below (b n c : Nat) (zs : List Int) (x : Int) (w : World) (hz : n = zs.length) (hbig : n < 1000000) (hI : IntsAt w b zs) (hs : zs.Pairwise (· ≤ ·)) :
    Calls Tryz.prog 82 #[.slice (some ⟨b, 0, none⟩) n c, .int .i64 x] w fun e w' => e = .returned (.tuple #[.int .i64 (zs.countP (· < x) : Nat), .bool (zs.contains x)]) ∧ Below w.heap.size w w' := by
  subst hz
  have h := Tryz.slices_BinarySearch_int b 0 zs.length c zs x w (Nat.le_refl _) (by omega) (fun j hj => by rw [Nat.zero_add]; exact hI.2 j hj) (by rw [List.take_length]; exact hs)
  rw [List.take_length] at h
  refine h.mono ?_
  rintro e w' ⟨rfl, q, rfl⟩
  exact ⟨rfl, below_drewN (Below.refl _ _) q⟩

set_option maxRecDepth 100000 in
set_option maxHeartbeats 4000000 in
theorem spells1_stops (S : Nat → TypeId → Prop) (n : Nat) (hn : 1 ≤ n) (x : Tf.Tariff) (hx : Tf.okT x = true) (A : Option Addr) (c : Nat) (z a b : Int) (hz1 : -60000 ≤ z) (hz2 : z ≤ 60000) (ha : 0 ≤ a) (hb : b ≤ 20000000) (hab : a ≤ b) (B1 B2 B3 : Nat) (w : World)
    (hin : SpIn x A c z a b B1 B2 B3 w) (h1 : ¬ S B1 26) (h2 : ¬ S B2 28) (h3 : ¬ S B3 3) (hS : ∀ ad, A = some ad → x.rates ≠ [] → ∀ t, ¬ S ad.block t) (hSw : ∀ k, w.heap.size ≤ k → ¬ S k 3) :
    SeqStopsK Fence.wide n Tryz.prog 80 #[.pointer (some ⟨B1, 0, none⟩), .pointer (some ⟨B2, 0, none⟩), .pointer (some ⟨B3, 0, none⟩)] encP (KpS S) (fun ys => ys = Tf.pcsT x z a b) (fun pre => pre <+: Tf.pcsT x z a b) (Tf.pcsT x z a b).length w := fun l J Jx W hW hJ hJx hY h0 => by
  have hin0 := hin.below hW
  have hrl : x.rates.length ≤ 10 := ((Tf.okT_iff x).1 hx).2.1
  have hcall := fun W0 hR => changes_any A c x hrl (fun r hr => by have := (Tf.okRate_iff r).1 (((Tf.okT_iff x).1 hx).2.2 r hr); omega) W0 hR
  have HC := Lib.hid hcall
  clear hcall
  have d10 := hin0.c10
  have d11 := hin0.c11
  have d20 := hin0.c20
  refine callsIn_of_wp Tryz.func80 rfl trivial ?_ rfl
  simp only [Tryz.ntmps80, List.size_toArray, List.length_cons, List.length_nil, Nat.reduceAdd, Nat.reduceSub, Array.replicate_succ, Array.replicate_zero, List.push_toArray, List.append_toArray, List.nil_append, List.cons_append]
  gi_wp2_with (refine ⟨trivial, ?_⟩; gi_at_call 81; refine (wideC (HC.out _ hin0.rates)).mono ?_; rintro e w1 ⟨g, cap, rfl, hI1, hb1, hg1, hty1⟩; have hin1 := hin0.below hb1; have e20 := hin1.c20)
  have hgS : ¬ S g 3 := hSw g (by have := hW.size; omega)
  clear d10 d11 d20 e20 HC hin hin0
  gi_loopw [6] (fun v wr => ∃ (pre : List Tf.Pc) (a1 : Int), v = .int .i64 a1 ∧ a ≤ a1 ∧ a1 ≤ b ∧ Aside (Tf.pcsT x z a b = pre ++ Tf.pcsT x z a1 b) ∧ J pre wr ∧ Aside (SpIn x A c z a b B1 B2 B3 wr) ∧ Aside (IntsAt wr g (Tf.chg x)) ∧ Aside (Typed wr g 3)) (fun v _ => (b - intOf v).toNat)
  case atStart => exact ⟨[], a, rfl, Int.le_refl _, hab, (List.nil_append _).symm, abides_below hJ h0 hb1, hin1, hI1, hty1⟩
  case round =>
    obtain ⟨pre, a1, rfl, ha1, ha2, hpre, hJp, hin, hI, hty⟩ := hrel
    have k10 := hin.out.c10
    have k11 := hin.out.c11
    have k21 := hin.out.c21
    have k30 := hin.out.c30
    by_cases hlt : a1 < b
    · have hsr := Tf.loc_range z a1
      have hloc := fun W0 => local_any z a1 W0 (by omega) (by omega) hz1 hz2
      have hrat := fun W0 hR => rated_any A c x hx (Tf.loc z a1) hsr.1 hsr.2 W0 hR
      have hstep := Tf.pcsT_step x hx z hlt
      have hup := Tf.upTo_gt (Tf.chg_sorted x) (fun b hb => (Tf.chg_range hx b hb).2) (z := z) hlt
      have hnb := Tf.nextB_at (Tf.chg_sorted x) (Tf.loc z a1 % 86400)
      obtain ⟨hn1, hn2, _⟩ := Tf.nextB_spec (Tf.chg_sorted x) (fun b hb => (Tf.chg_range hx b hb).2) (Tf.loc z a1 % 86400) (by omega)
      have hpr : Tf.price x z a1 = Tf.rated x (Tf.loc z a1) := rfl
      unfold Tf.upTo at hstep hup
      rw [hpr] at hstep
      generalize Tf.loc z a1 = s at *
      generalize Tf.rated x s = pr at *
      have hs4 := (Tf.chg_sorted x).imp (fun {a b} (h : a < b) => Int.le_of_lt h)
      have hlen := Tf.chg_length_le x
      have hsea := fun W0 hI0 => search_below g (Tf.chg x).length cap (Tf.chg x) (s % 86400 + 1) W0 rfl (by omega) hI0 hs4
      generalize hkk : (Tf.chg x).countP (· < s % 86400 + 1) = k at hnb hsea
      generalize hnx : Tf.nextB (Tf.chg x) (s % 86400) = nx at *
      have HSEA := Lib.hid hsea
      have HLOC := Lib.hid hloc
      have HRAT := Lib.hid hrat
      have HSTEP := Lib.hid hstep
      have HPRE := hpre.out
      have HPR := Lib.hid HPRE
      clear hsea hloc hrat hstep hkk hnx HPRE hpre hs4
      by_cases hlt2 : k < (Tf.chg x).length
      · rw [if_pos hlt2] at hnb
        have hcell := hI.out.2 k hlt2
        rw [← hnb] at hcell
        have hk2 : (k : Int) < ((Tf.chg x).length : Int) := by omega
        clear hnb
        have hlen3 : pre.length < (Tf.pcsT x z a b).length := by rw [HPR.out, HSTEP.out]; simp
        gi_wp2_with (first | (refine ⟨trivial, ?_⟩; gi_at_call 53; refine (wideC (HLOC.out _)).mono ?_; rintro e w2 ⟨rfl, rfl⟩) | (refine ⟨trivial, ?_⟩; gi_at_call 82; refine (wideC (HSEA.out _ hI.out)).mono ?_; rintro e w2 ⟨rfl, hb2⟩; have hin2 := hin.out.below hb2; have m21 := hin2.c21; have m10 := hin2.c10; have m11 := hin2.c11; have mcell := cell_below hb2 hcell) | (refine ⟨trivial, ?_⟩; gi_at_call 52; refine (wideC (HRAT.out _ hin2.rates)).mono ?_; rintro e w3 ⟨rfl, hb3⟩; obtain ⟨fn, tmps, assign, body, hy, hR⟩ := hY pre ⟨a1, min (a1 + nx - s % 86400) b, pr⟩ w3 (abides_below hJ hJp (hb2.trans (hb3.mono hb2.size))) hlen3; dsimp only [encP] at hy))
        refine hR.mono ?_
        rintro e w4 (⟨rfl, hJ4, hk4⟩ | ⟨rfl, hJx4⟩)
        · have hin4 := (hin2.below hb3).kps hk4 h1 h2 h3 hS
          have hI4 : IntsAt w4 g (Tf.chg x) := by
            have hI3 := (hI.out.below hb2).below hb3
            exact ⟨Nat.lt_of_lt_of_le hI3.1 hk4.size, fun j hj => hk4.cell (p := ⟨g, j, none⟩) (((hty.out.below hb2).below hb3).is hgS) (hI3.2 j hj)⟩
          have hty4 := ((hty.out.below hb2).below hb3).kps hk4 hgS
          clear hy hR hY
          gi_wp2
          go_roundw
          case rel => exact ⟨pre ++ [⟨a1, min (a1 + nx - s % 86400) b, pr⟩], min (a1 + nx - s % 86400) b, rfl, by omega, by omega, by show _ = _; rw [HPR.out, HSTEP.out]; simp, hJ4, hin4, hI4, hty4⟩
          case measure => simp [intOf]; omega
        · clear hy hR hY
          gi_wp2
          refine bodyPost_ret (results_none rfl _ _ _) rfl ?_
          exact ⟨⟨_, rfl⟩, .inr ⟨pre ++ [⟨a1, min (a1 + nx - s % 86400) b, pr⟩], by rw [HPR.out, HSTEP.out]; exact ⟨_, by simp; rfl⟩, hJx4⟩⟩
      · rw [if_neg hlt2] at hnb
        have hk2 : ¬ (k : Int) < ((Tf.chg x).length : Int) := by omega
        subst hnb
        have hlen3 : pre.length < (Tf.pcsT x z a b).length := by rw [HPR.out, HSTEP.out]; simp
        gi_wp2_with (first | (refine ⟨trivial, ?_⟩; gi_at_call 53; refine (wideC (HLOC.out _)).mono ?_; rintro e w2 ⟨rfl, rfl⟩) | (refine ⟨trivial, ?_⟩; gi_at_call 82; refine (wideC (HSEA.out _ hI.out)).mono ?_; rintro e w2 ⟨rfl, hb2⟩; have hin2 := hin.out.below hb2; have m21 := hin2.c21; have m10 := hin2.c10; have m11 := hin2.c11) | (refine ⟨trivial, ?_⟩; gi_at_call 52; refine (wideC (HRAT.out _ hin2.rates)).mono ?_; rintro e w3 ⟨rfl, hb3⟩; obtain ⟨fn, tmps, assign, body, hy, hR⟩ := hY pre ⟨a1, min (a1 + 86400 - s % 86400) b, pr⟩ w3 (abides_below hJ hJp (hb2.trans (hb3.mono hb2.size))) hlen3; dsimp only [encP] at hy))
        refine hR.mono ?_
        rintro e w4 (⟨rfl, hJ4, hk4⟩ | ⟨rfl, hJx4⟩)
        · have hin4 := (hin2.below hb3).kps hk4 h1 h2 h3 hS
          have hI4 : IntsAt w4 g (Tf.chg x) := by
            have hI3 := (hI.out.below hb2).below hb3
            exact ⟨Nat.lt_of_lt_of_le hI3.1 hk4.size, fun j hj => hk4.cell (p := ⟨g, j, none⟩) (((hty.out.below hb2).below hb3).is hgS) (hI3.2 j hj)⟩
          have hty4 := ((hty.out.below hb2).below hb3).kps hk4 hgS
          clear hy hR hY
          gi_wp2
          go_roundw
          case rel => exact ⟨pre ++ [⟨a1, min (a1 + 86400 - s % 86400) b, pr⟩], min (a1 + 86400 - s % 86400) b, rfl, by omega, by omega, by show _ = _; rw [HPR.out, HSTEP.out]; simp, hJ4, hin4, hI4, hty4⟩
          case measure => simp [intOf]; omega
        · clear hy hR hY
          gi_wp2
          refine bodyPost_ret (results_none rfl _ _ _) rfl ?_
          exact ⟨⟨_, rfl⟩, .inr ⟨pre ++ [⟨a1, min (a1 + 86400 - s % 86400) b, pr⟩], by rw [HPR.out, HSTEP.out]; exact ⟨_, by simp; rfl⟩, hJx4⟩⟩
    · have hpre' := hpre.out
      rw [Tf.pcsT_nil x z hlt, List.append_nil] at hpre'
      have HP := Lib.hid hpre'
      clear hpre' hpre
      gi_wp2
      go_end0
      exact ⟨⟨_, rfl⟩, .inl (by rw [HP.out]; exact hJp)⟩
end Go.Proofs.YtbenflnpnohcjaaGreatDoor

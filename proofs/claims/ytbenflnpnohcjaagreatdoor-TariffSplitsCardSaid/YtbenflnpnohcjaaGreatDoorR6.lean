/- The reference's integers: Valid, FromInt, Compare, Gcd, Div (of numbers that are not negative). The reference's fractions: Of, Make (of numbers that are not negative). -/
import Derived.Test.YtbenflnpnohcjaaGreatDoorR4
import Derived.Test.YtbenflnpnohcjaaGreatDoorN17
namespace Go.Proofs.YtbenflnpnohcjaaGreatDoor
open Go.RowKit Go.Shelf

theorem txn_dig (N : Nat) (i : Nat) (h : i < (Nm.Tx N).size) : 48 ≤ (Nm.Tx N)[i].toNat ∧ (Nm.Tx N)[i].toNat ≤ 57 := by
  have h1 : (Nm.Tx N).data.toList[i]? = some (Nm.Tx N)[i] := by
    have h5 : (Nm.Tx N).data.toList[i]? = some (Nm.Tx N)[i] := by
      generalize Nm.Tx (N : Int) = s at *
      rw [Array.getElem?_toList, Array.getElem?_eq_getElem h]; rfl
    exact h5
  rw [txn_list] at h1
  exact Nm.dec_isDig N _ (List.mem_of_getElem? h1)

set_option maxRecDepth 100000 in
set_option maxHeartbeats 400000 in
theorem validD_any (N : Nat) (hN : N < Nm.lim) (w : World) : Calls Tryz.prog 99 #[.string (Nm.Tx N)] w fun e w' => e = .returned (.bool true) ∧ w = w' := by
  have hdig := txn_dig N
  have hsz : (Nm.Tx (N : Int)).size ≤ 200 := by
    rw [← ds_tx, dsB_size]; exact (Nm.dec_len_le N).2 hN
  have hpos : 0 < (Nm.Tx (N : Int)).size := by
    rw [← ds_tx, dsB_size, Lib.decDigits_length]; exact Lib.nDigits_pos N
  have hfin : ∀ h : 0 < (Nm.Tx (N : Int)).size, (((Nm.Tx (N : Int)).toList == [48]) || (((Nm.Tx (N : Int))[0]'h).toNat : Int) != 48) = true := fun h => by
    by_cases h0 : N = 0
    · have htx : Nm.Tx (N : Int) = ⟨#[48]⟩ := by rw [h0]; exact Nm.tx_zero false
      have : ((Nm.Tx (N : Int)).toList == [48]) = true := by rw [ba_toList, htx]; rfl
      rw [this]; rfl
    · have h1 := Nm.dec_head N h0
      have h2 : (Nm.Tx (N : Int)).data.toList[0]? = some ((Nm.Tx (N : Int))[0]'h) := by
        generalize Nm.Tx (N : Int) = s at *
        rw [Array.getElem?_toList, Array.getElem?_eq_getElem h]; rfl
      rw [txn_list] at h2
      have h3 := h1 _ (by rw [List.head?_eq_getElem?]; exact h2)
      have h4 : (((Nm.Tx (N : Int))[0]'h).toNat : Int) ≠ 48 := fun e => h3 (UInt8.toNat_inj.1 (by
        have : ((Nm.Tx (N : Int))[0]'h).toNat = 48 := by omega
        rw [this]; rfl))
      have : ((((Nm.Tx (N : Int))[0]'h).toNat : Int) != 48) = true := by simpa using h4
      rw [this, Bool.or_true]
  generalize Nm.Tx (N : Int) = s at *
  have hc0 : ∀ h : 0 < s.size, (((s[0]'h).toNat : Int) == 45) = false := fun h => by
    have := hdig 0 h
    rw [beq_eq_false_iff_ne]; omega
  have hposz : (0 : Int) < (s.size : Int) := by omega
  have HF := Lib.hid hfin
  have HD := Lib.hid hdig
  clear hfin hdig hN
  go_enter Tryz.func99, Tryz.ntmps99
  go_wp2
  go_loopw [3] (fun si wr => ∃ (k : Nat), si = .int .i64 (k : Int) ∧ k ≤ s.size ∧ wr = w) (fun si _ => s.size - (intOf si).toNat)
  case atStart => exact ⟨0, rfl, Nat.zero_le _, rfl⟩
  case round =>
    obtain ⟨k, rfl, hk, rfl⟩ := hrel
    by_cases hkl : k < s.size
    · have hkz : (k : Int) < (s.size : Int) := by omega
      obtain ⟨d1, d2⟩ := HD.out k hkl
      have d1z : ∀ h : k < s.size, decide (((s[k]'h).toNat : Int) < 48) = false := fun h => decide_eq_false (by omega)
      have d2z : ∀ h : k < s.size, decide ((57 : Int) < ((s[k]'h).toNat : Int)) = false := fun h => decide_eq_false (by omega)
      clear d1 d2
      go_wp2
      exact ⟨⟨k + 1, by go_num, by omega, trivial⟩, by simp [intOf] <;> omega⟩
    · have hkz : ¬ (k : Int) < (s.size : Int) := by omega
      cases hs0 : (s.toList == [48])
      · have hff : ∀ h : 0 < s.size, (((s[0]'h).toNat : Int) != 48) = true := fun h => by
          have := HF.out h
          rw [hs0, Bool.false_or] at this
          exact this
        go_wp2
        go_ret
        exact ⟨rfl, rfl⟩
      · go_wp2
        go_ret
        exact ⟨rfl, rfl⟩

theorem compareD_zero (N : Nat) (hN : N < Nm.lim) (h0 : N ≠ 0) (w : World) : Calls Tryz.prog 100 #[.string (Nm.Tx N), .string ⟨#[48]⟩] w fun e w' => e = .returned (.int .i64 1) ∧ Below w.heap.size w w' := by
  have hl0 : 0 < Nm.lim := by unfold Nm.lim; exact Nat.pos_of_ne_zero (by decide)
  have hz : Nm.Tx ((0 : Nat) : Int) = ⟨#[48]⟩ := Nm.tx_zero false
  have HV1 := Lib.hid (fun W => validD_any N hN W)
  have HV2 := Lib.hid (fun W => validD_any 0 hl0 W)
  have HD1 := Lib.hid (fun W => digitsD_any N hN W)
  have HD2 := Lib.hid (fun W => digitsD_any 0 hl0 W)
  have HO := Lib.hid (fun v u W h1 h2 => order_any N 0 v u W h1 h2 (by have := len10_lim hN; omega) (by rw [Nm.grp_zero]; simp))
  rw [hz] at HV2 HD2
  have hs : Nm.sgn (N : Int) ((0 : Nat) : Int) = 1 := by
    unfold Nm.sgn
    rw [if_neg (by omega), if_pos (by omega)]
  rw [hs] at HO
  generalize Nm.Tx (N : Int) = s at *
  generalize (⟨#[48]⟩ : ByteArray) = z at *
  clear hs hz hl0
  go_enter Tryz.func100, Tryz.ntmps100
  go_wp2_with (first | (go_at_call 99; (with_reducible refine (HV1.out _).mono ?_); rintro e w1 ⟨rfl, rfl⟩) | (go_at_call 99; (with_reducible refine (HV2.out _).mono ?_); rintro e w1 ⟨rfl, rfl⟩) | (go_at_call 131; (with_reducible refine (HD1.out _).mono ?_); rintro e w2 ⟨⟨v, rfl, hv⟩, hb2⟩) | (go_at_call 131; (with_reducible refine (HD2.out _).mono ?_); rintro e w3 ⟨⟨u, rfl, hu⟩, hb3⟩) | (go_at_call 132; (with_reducible refine (HO.out _ _ _ (hv.below hb3) hu).mono ?_); rintro e w4 ⟨rfl, hb4⟩))
  go_ret
  exact ⟨rfl, (hb2.trans (hb3.mono hb2.size)).trans (hb4.mono (Nat.le_trans hb2.size hb3.size))⟩

set_option maxRecDepth 100000 in
set_option maxHeartbeats 400000 in
theorem gcdD_any (M N : Nat) (hM : M < Nm.lim) (hN : N < Nm.lim) (w : World) :
    Calls Tryz.prog 102 #[.string (Nm.Tx M), .string (Nm.Tx N)] w fun e w' => e = .returned (.tuple #[.string (Nm.Tx (Nat.gcd M N : Nat)), .int .i64 0]) ∧ Below w.heap.size w w' := by
  have HV1 := Lib.hid (fun W => validD_any M hM W)
  have HV2 := Lib.hid (fun W => validD_any N hN W)
  have HD1 := Lib.hid (fun W => digitsD_any M hM W)
  have HD2 := Lib.hid (fun W => digitsD_any N hN W)
  have HOV := Lib.hid (fun K L v u W (h1 : NumD W v K) (h2 : NumD W u L) (h3 : K < Nm.lim) (h4 : L < Nm.lim) (h5 : 0 < L) => dividedD_any K L h5 v u W h1 h2 (by have := len10_lim h3; omega) (by have := len10_lim h4; omega))
  have HCK := Lib.hid (fun K v W (h1 : NumD W v K) (h2 : K < Nm.lim) => checkedD_any K v W h1 h2)
  have HL := Lib.hid (And.intro hM hN)
  generalize Nm.Tx (M : Int) = s at *
  generalize Nm.Tx (N : Int) = z at *
  clear hM hN
  go_enter Tryz.func102, Tryz.ntmps102
  go_wp2_with (first | (go_at_call 99; (with_reducible refine (HV1.out _).mono ?_); rintro e w1 ⟨rfl, rfl⟩) | (go_at_call 99; (with_reducible refine (HV2.out _).mono ?_); rintro e w1 ⟨rfl, rfl⟩) | (go_at_call 131; (with_reducible refine (HD1.out _).mono ?_); rintro e w2 ⟨⟨v, rfl, hv⟩, hb2⟩) | (go_at_call 131; (with_reducible refine (HD2.out _).mono ?_); rintro e w3 ⟨⟨u, rfl, hu⟩, hb3⟩))
  go_loopg [7, 9] N (fun gk sk sl wr => ∃ K, NumD wr sk K ∧ NumD wr sl gk ∧ Aside (Nat.gcd K gk = Nat.gcd M N ∧ K < Nm.lim ∧ gk < Nm.lim ∧ Below w.heap.size w wr))
  case atStart => exact ⟨M, hv.below hb3, hu, rfl, HL.out.1, HL.out.2, hb2.trans (hb3.mono hb2.size)⟩
  case round =>
    obtain ⟨K, hK, hL, has⟩ := hrel
    obtain ⟨hg, h1, h2, hB⟩ := has.out
    have HH := Lib.hid (And.intro hK (And.intro hL (And.intro hg (And.intro h1 (And.intro h2 hB)))))
    obtain ⟨A3, k3, rfl, _⟩ := hK
    obtain ⟨A4, k4, rfl, _⟩ := hL
    clear hg h1 h2 hB has
    by_cases hg0 : gk = 0
    · have hl0 : decide ((0 : Int) < ((Nm.grp 10 gk).length : Int)) = false := by rw [hg0, Nm.grp_zero]; rfl
      have hl1 : decide (0 < (Nm.grp 10 gk).length) = false := by rw [hg0, Nm.grp_zero]; rfl
      have HT := Lib.hid (HCK.out K _ wr HH.out.1 HH.out.2.2.2.1)
      have hfin : Nat.gcd M N = K := by rw [← HH.out.2.2.1, hg0, Nat.gcd_zero_right]
      have HF := Lib.hid hfin
      have HBB := Lib.hid HH.out.2.2.2.2.2
      clear hg0 hfin HH
      go_wp2_with (first | (go_at_call 135; (with_reducible refine HT.out.mono ?_); rintro e w2 ⟨rfl, hb2⟩))
      go_ret2
      exact ⟨by rw [HF.out]; rfl, HBB.out.trans (hb2.mono HBB.out.size)⟩
    · have hl0 : (0 : Int) < ((Nm.grp 10 gk).length : Int) := by
        have := (Nm.grp_lt_iff (b := 10) (by omega) gk 0).2 (by simpa using hg0)
        omega
      have HO := Lib.hid (HOV.out K gk _ _ wr HH.out.1 HH.out.2.1 HH.out.2.2.2.1 HH.out.2.2.2.2.1 (by omega))
      have HG0 := Lib.hid hg0
      clear hg0
      go_wp2_with (first | (go_at_call 134; (with_reducible refine HO.out.mono ?_); rintro e w2 ⟨⟨q, r, rfl, hq, hr⟩, hb2⟩))
      have hm : K % gk < gk := Nat.mod_lt _ (Nat.pos_of_ne_zero HG0.out)
      go_roundg (K % gk)
      case measure => exact hm
      case rel =>
        refine ⟨gk, HH.out.2.1.below hb2, hr, ?_, HH.out.2.2.2.2.1, Nat.lt_trans hm HH.out.2.2.2.2.1, HH.out.2.2.2.2.2.trans (hb2.mono HH.out.2.2.2.2.2.size)⟩
        rw [← HH.out.2.2.1, Nat.gcd_comm gk, ← Nat.gcd_rec, Nat.gcd_comm]

set_option maxRecDepth 100000 in
set_option maxHeartbeats 400000 in
theorem divD_any (M N : Nat) (hM : M < Nm.lim) (hN : N < Nm.lim) (h0 : N ≠ 0) (w : World) :
    Calls Tryz.prog 103 #[.string (Nm.Tx M), .string (Nm.Tx N)] w fun e w' => e = .returned (.tuple #[.string (Nm.Tx (M / N : Nat)), .string (Nm.Tx (M % N : Nat)), .int .i64 0]) ∧ Below w.heap.size w w' := by
  have HV1 := Lib.hid (fun W => validD_any M hM W)
  have HV2 := Lib.hid (fun W => validD_any N hN W)
  have HD1 := Lib.hid (fun W => digitsD_any M hM W)
  have HD2 := Lib.hid (fun W => digitsD_any N hN W)
  have HOV := Lib.hid (fun v u W (h1 : NumD W v M) (h2 : NumD W u N) => dividedD_any M N (by omega) v u W h1 h2 (by have := len10_lim hM; omega) (by have := len10_lim hN; omega))
  have hq : M / N < Nm.lim := Nat.lt_of_le_of_lt (Nat.div_le_self _ _) hM
  have hr : M % N < Nm.lim := Nat.lt_trans (Nat.mod_lt _ (by omega)) hN
  have HCK := Lib.hid (fun v W (h1 : NumD W v (M / N)) => checkedD_any _ v W h1 hq)
  have HTX := Lib.hid (fun v W (h1 : NumD W v (M % N)) => textD_any _ v W h1 (by have := len10_lim hr; omega))
  have hz : ((Nm.Tx (N : Int)).toList == [48]) = false := by
    rw [ba_toList, beq_eq_false_iff_ne, txn_list]
    intro e
    have := Nm.dv_dec N
    rw [e] at this
    exact h0 this.symm
  generalize Nm.Tx (M : Int) = s at *
  generalize Nm.Tx (N : Int) = z at *
  clear hM hN h0 hq hr
  go_enter Tryz.func103, Tryz.ntmps103
  go_wp2_with (first | (go_at_call 99; (with_reducible refine (HV1.out _).mono ?_); rintro e w1 ⟨rfl, rfl⟩) | (go_at_call 99; (with_reducible refine (HV2.out _).mono ?_); rintro e w1 ⟨rfl, rfl⟩) | (go_at_call 131; (with_reducible refine (HD1.out _).mono ?_); rintro e w2 ⟨⟨v, rfl, hv⟩, hb2⟩) | (go_at_call 131; (with_reducible refine (HD2.out _).mono ?_); rintro e w3 ⟨⟨u, rfl, hu⟩, hb3⟩; have HNN := Lib.hid (And.intro (hv.below hb3) (And.intro hu (hb2.trans (hb3.mono hb2.size)))); clear hv hu) | (go_at_call 134; (with_reducible refine (HOV.out _ _ _ HNN.out.1 HNN.out.2.1).mono ?_); rintro e w4 ⟨⟨q, r, rfl, hq, hr⟩, hb4⟩; have HQR := Lib.hid (And.intro hq (And.intro hr (HNN.out.2.2.trans (hb4.mono HNN.out.2.2.size)))); clear hq hr) | (go_at_call 135; (with_reducible refine (HCK.out _ _ HQR.out.1).mono ?_); rintro e w5 ⟨rfl, hb5⟩) | (go_at_call 104; (with_reducible refine (HTX.out _ _ (HQR.out.2.1.below hb5)).mono ?_); rintro e w6 ⟨rfl, hb6⟩))
  refine bodyPost_ret (results_tmp3 rfl _ _ _) rfl ⟨rfl, ?_⟩
  have hb := HQR.out.2.2
  exact (hb.trans (hb5.mono hb.size)).trans (hb6.mono (Nat.le_trans hb.size hb5.size))
end Go.Proofs.YtbenflnpnohcjaaGreatDoor

namespace Go.Proofs.YtbenflnpnohcjaaGreatDoor
open Go.RowKit Go.Shelf

theorem i64_lim {n : Nat} (h : n ≤ 9223372036854775807) : n < Nm.lim := by
  have hlim : 9223372036854775808 < Nm.lim := by unfold Nm.lim; decide
  omega

set_option maxRecDepth 100000 in
set_option maxHeartbeats 400000 in
theorem fromIntD_any (n : Nat) (hn : n ≤ 9223372036854775807) (w : World) : Calls Tryz.prog 74 #[.int .i64 n] w fun e w' => e = .returned (.string (Nm.Tx n)) ∧ Below w.heap.size w w' := by
  have hu36 : Tryz.prog.underlying 36 = some (.slice 3) := by kernel_rfl
  have hN := i64_lim hn
  have lN := len10_lim hN
  have hts : ∀ k, k < (Nm.grp 10 n).length → (Nm.grp 10 n).take (k + 1) = (Nm.grp 10 n).take k ++ [((n / 10 ^ k % 10 : Nat) : Int)] := fun k hk => Nm.grp_take_snoc hk
  have hlt := Nm.grp_lt_iff (b := 10) (by omega) n
  have HTX := Lib.hid (fun v W (h1 : NumD W v n) => textD_any _ v W h1 (by omega))
  have HALL := Lib.hid (And.intro hts hlt)
  clear hts hlt hN
  generalize hl : Nm.grp 10 n = l at *
  have HL := Lib.hid hl
  clear hl
  go_enter Tryz.func74, Tryz.ntmps74
  go_wp2
  go_loopw [3, 4] (fun so sm wr => ∃ (k : Nat), sm = .int .i64 ((n / 10 ^ k : Nat) : Int) ∧ k ≤ l.length ∧ wr.ownsRow w.heap.size 3 1 so k ((l.take k).map (Value.int .i64)) ∧ Aside (Below w.heap.size w wr)) (fun _ sm _ => (intOf sm).toNat)
  case atStart => exact ⟨0, by simp, Nat.zero_le _, by simp [World.ownsRow], Below.refl _ _⟩
  case round =>
    obtain ⟨k, rfl, hk, hown, BW⟩ := hrel
    have hle : n / 10 ^ k ≤ n := Nat.div_le_self _ _
    by_cases hm0 : n / 10 ^ k = 0
    · have hkl : k = l.length := by
        by_cases h : k < l.length
        · exact absurd hm0 ((HALL.out.2 k).1 h)
        · omega
      subst hkl
      rw [List.take_length] at hown
      obtain ⟨A1, c1, hv, hsl, hrest⟩ := slAt_owns (show OwnsInts wr w.heap.size _ l from hown)
      subst hv
      have hnn : NumD wr (.slice A1 l.length c1) n := ⟨A1, c1, by rw [HL.out], by rw [HL.out]; exact hsl, by rw [HL.out]; exact hrest⟩
      have HT := Lib.hid (HTX.out _ wr hnn)
      rw [hm0]
      clear hown hsl hrest hnn hm0 hle
      have hn0 : decide ((n : Int) < 0) = false := decide_eq_false (by omega)
      go_wp2_with (first | (go_at_call 104; (with_reducible refine HT.out.mono ?_); rintro e w2 ⟨rfl, hb2⟩))
      go_ret
      exact ⟨rfl, BW.out.trans (hb2.mono BW.out.size)⟩
    · have hkl : k < l.length := (HALL.out.2 k).2 hm0
      have HTS := Lib.hid (HALL.out.1 k hkl)
      have HPW := Lib.hid (show n / 10 ^ (k + 1) = n / 10 ^ k / 10 from by rw [Nat.pow_succ, Nat.div_div_eq_div_mul])
      generalize n / 10 ^ k = m at *
      obtain ⟨r, hr⟩ : ∃ r, m % 10 = r := ⟨_, rfl⟩
      obtain ⟨q, hq⟩ : ∃ q, m / 10 = q := ⟨_, rfl⟩
      have hr10 : r < 10 := by omega
      have hqm : q < m := by omega
      have t1 : Int.tmod (m : Int) 10 = (r : Int) := by rw [Int.tmod_eq_emod_of_nonneg (by omega)]; omega
      have t2 : Int.tdiv (m : Int) 10 = (q : Int) := by rw [Int.tdiv_eq_ediv_of_nonneg (by omega)]; omega
      have hmb : ((m : Int) != 0) = true := by simp; omega
      have HRQ := Lib.hid (And.intro hr hq)
      clear hr hq hm0
      have hrn : ¬ (r : Int) < 0 := by omega
      go_wp2_with (at_builtin; refine app_int 36 hu36 rfl (.tmp 19) (.tmp 21) rfl w.heap.size wr _ k (l.take k) (r : Int) rfl hown rfl (by omega) BW.out.size ?_; intro ao n' cp w2 hown' hb2; have HOW := Lib.hid hown'; clear hown')
      refine ⟨⟨k + 1, ?_, by omega, ?_, BW.out.trans hb2⟩, by simp [intOf] <;> omega⟩
      · rw [HPW.out, HRQ.out.2]
      · rw [HTS.out, HRQ.out.1]; exact HOW.out

set_option maxRecDepth 100000 in
set_option maxHeartbeats 1000000 in
theorem makeD_any (n d : Nat) (hn : n < Nm.lim) (hd : d < Nm.lim) (hd0 : d ≠ 0) (w : World) :
    Calls Tryz.prog 73 #[.string (Nm.Tx n), .string (Nm.Tx d)] w fun e w' => e = .returned (.tuple #[.agg #[.string (Nm.Tx (n / Nat.gcd n d : Nat)), .string (Nm.Tx (d / Nat.gcd n d : Nat))], .int .i64 0]) ∧ Below w.heap.size w w' := by
  have hg0 : Nat.gcd n d ≠ 0 := by have := Nat.gcd_pos_of_pos_right n (show 0 < d by omega); omega
  have hgl : Nat.gcd n d < Nm.lim := Nat.lt_of_le_of_lt (Nat.gcd_le_right _ (by omega)) hd
  have HV1 := Lib.hid (fun W => validD_any n hn W)
  have HV2 := Lib.hid (fun W => validD_any d hd W)
  have HC := Lib.hid (fun W => compareD_zero d hd hd0 W)
  have HG := Lib.hid (fun W => gcdD_any n d hn hd W)
  have HQ1 := Lib.hid (fun W => divD_any n _ hn hgl hg0 W)
  have HQ2 := Lib.hid (fun W => divD_any d _ hd hgl hg0 W)
  have hz : ((Nm.Tx (d : Int)).toList == [48]) = false := by
    rw [ba_toList, beq_eq_false_iff_ne, txn_list]
    intro e
    have := Nm.dv_dec d
    rw [e] at this
    exact hd0 this.symm
  have HRR := Lib.hid (show ∀ w3, Below (w.alloc (.cells #[.string ⟨#[]⟩, .string ⟨#[]⟩] 44)).heap.size (w.alloc (.cells #[.string ⟨#[]⟩, .string ⟨#[]⟩] 44)) w3 → w3.heap[w.heap.size]? = some (.cells #[.string ⟨#[]⟩, .string ⟨#[]⟩] 44 (0, 0)) ∧ w3.cell? ⟨w.heap.size, 0, none⟩ = some (.string ⟨#[]⟩) ∧ w3.cell? ⟨w.heap.size, 1, none⟩ = some (.string ⟨#[]⟩) ∧ w3.frozen? ⟨w.heap.size, 0, none⟩ = false ∧ w3.frozen? ⟨w.heap.size, 1, none⟩ = false ∧ Below w.heap.size w w3 from fun w3 h => by
    have e1 : (w.alloc (.cells #[.string ⟨#[]⟩, .string ⟨#[]⟩] 44)).heap[w.heap.size]? = some (.cells #[.string ⟨#[]⟩, .string ⟨#[]⟩] 44 (0, 0)) := heap_at' _ _ rfl
    have hr := (h.block w.heap.size (by simp)).trans e1
    have hB0 : Below w.heap.size w (w.alloc (.cells #[.string ⟨#[]⟩, .string ⟨#[]⟩] 44)) := (Below.refl _ w).alloc (Nat.le_refl _) _
    exact ⟨hr, by simp [World.cell?, hr], by simp [World.cell?, hr], by simp [World.frozen?, hr], by simp [World.frozen?, hr], hB0.trans (h.mono hB0.size)⟩)
  generalize Nat.gcd n d = g at *
  obtain ⟨sq, hsq⟩ : ∃ sq, Nm.Tx ((n / g : Nat) : Int) = sq := ⟨_, rfl⟩
  obtain ⟨tq, htq⟩ : ∃ tq, Nm.Tx ((d / g : Nat) : Int) = tq := ⟨_, rfl⟩
  obtain ⟨sm, hsm⟩ : ∃ sq, Nm.Tx ((n % g : Nat) : Int) = sq := ⟨_, rfl⟩
  obtain ⟨tm, htm⟩ : ∃ tq, Nm.Tx ((d % g : Nat) : Int) = tq := ⟨_, rfl⟩
  rw [hsq, htq]
  rw [hsq, hsm] at HQ1
  rw [htq, htm] at HQ2
  clear hsq htq hsm htm
  generalize Nm.Tx (n : Int) = s at *
  generalize Nm.Tx (d : Int) = z at *
  generalize Nm.Tx (g : Int) = u at *
  clear hn hd hd0 hg0 hgl
  go_enter Tryz.func73, Tryz.ntmps73
  go_wp2_with (first | (go_at_call 99; (with_reducible refine (HV1.out _).mono ?_); rintro e w1 ⟨rfl, rfl⟩) | (go_at_call 99; (with_reducible refine (HV2.out _).mono ?_); rintro e w1 ⟨rfl, rfl⟩) | (go_at_call 100; (with_reducible refine (HC.out _).mono ?_); rintro e w2 ⟨rfl, hb2⟩) | (go_at_call 102; (with_reducible refine (HG.out _).mono ?_); rintro e w3 ⟨rfl, hb3⟩) | (go_at_call 103; (with_reducible refine (HQ1.out _).mono ?_); rintro e w4 ⟨rfl, hb4⟩) | (go_at_call 103; (with_reducible refine (HQ2.out _).mono ?_); rintro e w5 ⟨rfl, hb5⟩; have hbb := ((hb2.trans (hb3.mono hb2.size)).trans (hb4.mono (Nat.le_trans hb2.size hb3.size))).trans (hb5.mono (Nat.le_trans (Nat.le_trans hb2.size hb3.size) hb4.size)); obtain ⟨_, r1, r2, r3, r4, _⟩ := HRR.out _ hbb; have HBB := Lib.hid hbb; clear hbb))
  obtain ⟨r0, _, _, _, _, hj2⟩ := HRR.out _ HBB.out
  have t0 := sc_at w5 ⟨w.heap.size, 0, none⟩ (.string sq) rfl r0
  have t1 := sc_at _ ⟨w.heap.size, 1, none⟩ (.string tq) rfl t0
  exact bodyPost_ret (results_ct rfl _ _ _ _ _ _ _ rfl t1 Tryz.underlying44 rfl (by kernel_rfl)) rfl ⟨rfl, (hj2.setCell (p := ⟨w.heap.size, 0, none⟩) (Nat.le_refl _) _).setCell (p := ⟨w.heap.size, 1, none⟩) (Nat.le_refl _) _⟩

set_option maxRecDepth 100000 in
set_option maxHeartbeats 1000000 in
theorem ofD_any (n d : Nat) (hn : n ≤ 9223372036854775807) (hd : d ≤ 9223372036854775807) (hd0 : d ≠ 0) (w : World) :
    Calls Tryz.prog 45 #[.int .i64 n, .int .i64 d] w fun e w' => e = .returned (.tuple #[.agg #[.string (Nm.Tx (n / Nat.gcd n d : Nat)), .string (Nm.Tx (d / Nat.gcd n d : Nat))], .int .i64 0]) ∧ Below w.heap.size w w' := by
  have HF1 := Lib.hid (fun W => fromIntD_any n hn W)
  have HF2 := Lib.hid (fun W => fromIntD_any d hd W)
  have HM := Lib.hid (fun W => makeD_any n d (i64_lim hn) (i64_lim hd) hd0 W)
  have HRR := Lib.hid (show ∀ w3, Below (w.alloc (.cells #[.string ⟨#[]⟩, .string ⟨#[]⟩] 44)).heap.size (w.alloc (.cells #[.string ⟨#[]⟩, .string ⟨#[]⟩] 44)) w3 → w3.heap[w.heap.size]? = some (.cells #[.string ⟨#[]⟩, .string ⟨#[]⟩] 44 (0, 0)) ∧ w3.cell? ⟨w.heap.size, 0, none⟩ = some (.string ⟨#[]⟩) ∧ w3.cell? ⟨w.heap.size, 1, none⟩ = some (.string ⟨#[]⟩) ∧ w3.frozen? ⟨w.heap.size, 0, none⟩ = false ∧ w3.frozen? ⟨w.heap.size, 1, none⟩ = false ∧ Below w.heap.size w w3 from fun w3 h => by
    have e1 : (w.alloc (.cells #[.string ⟨#[]⟩, .string ⟨#[]⟩] 44)).heap[w.heap.size]? = some (.cells #[.string ⟨#[]⟩, .string ⟨#[]⟩] 44 (0, 0)) := heap_at' _ _ rfl
    have hr := (h.block w.heap.size (by simp)).trans e1
    have hB0 : Below w.heap.size w (w.alloc (.cells #[.string ⟨#[]⟩, .string ⟨#[]⟩] 44)) := (Below.refl _ w).alloc (Nat.le_refl _) _
    exact ⟨hr, by simp [World.cell?, hr], by simp [World.cell?, hr], by simp [World.frozen?, hr], by simp [World.frozen?, hr], hB0.trans (h.mono hB0.size)⟩)
  clear hn hd hd0
  generalize Nat.gcd n d = g at *
  obtain ⟨sq, hsq⟩ : ∃ sq, Nm.Tx ((n / g : Nat) : Int) = sq := ⟨_, rfl⟩
  obtain ⟨tq, htq⟩ : ∃ tq, Nm.Tx ((d / g : Nat) : Int) = tq := ⟨_, rfl⟩
  rw [hsq, htq]
  rw [hsq, htq] at HM
  clear hsq htq
  generalize Nm.Tx (n : Int) = s at *
  generalize Nm.Tx (d : Int) = z at *
  go_enter Tryz.func45, Tryz.ntmps45
  go_wp2_with (first | (go_at_call 74; (with_reducible refine (HF1.out _).mono ?_); rintro e w1 ⟨rfl, hb1⟩) | (go_at_call 74; (with_reducible refine (HF2.out _).mono ?_); rintro e w2 ⟨rfl, hb2⟩) | (go_at_call 73; (with_reducible refine (HM.out _).mono ?_); rintro e w3 ⟨rfl, hb3⟩; have hbb := (hb1.trans (hb2.mono hb1.size)).trans (hb3.mono (Nat.le_trans hb1.size hb2.size)); obtain ⟨_, r1, r2, r3, r4, _⟩ := HRR.out _ hbb; have HBB := Lib.hid hbb; clear hbb))
  obtain ⟨r0, _, _, _, _, hj2⟩ := HRR.out _ HBB.out
  have t0 := sc_at w3 ⟨w.heap.size, 0, none⟩ (.string sq) rfl r0
  have t1 := sc_at _ ⟨w.heap.size, 1, none⟩ (.string tq) rfl t0
  exact bodyPost_ret (results_ct rfl _ _ _ _ _ _ _ rfl t1 Tryz.underlying44 rfl (by kernel_rfl)) rfl ⟨rfl, (hj2.setCell (p := ⟨w.heap.size, 0, none⟩) (Nat.le_refl _) _).setCell (p := ⟨w.heap.size, 1, none⟩) (Nat.le_refl _) _⟩
end Go.Proofs.YtbenflnpnohcjaaGreatDoor

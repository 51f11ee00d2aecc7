/- Which strings are integers: isValid. The number that a string is: parse. -/
import Derived.Test.YtbenflnpnohcjaaGreatDoorN10
import Derived.Shelf.Strings.SlTrimAscii
import Derived.Lib.AtoiErrMem
namespace Go.Proofs.YtbenflnpnohcjaaGreatDoor
open Go.RowKit Go.Shelf

theorem ba_toList (s : ByteArray) : s.toList = s.data.toList := by
  exact ByteArray.toList_eq s

theorem trimPre_any (s : ByteArray) (w : World) (DB : ByteArray) (h : DB.data.toList = Lib.trimPrefix s.data.toList [45]) : Calls Tryz.prog 143 #[.string s, .string ⟨#[45]⟩] w fun e w' => e = .returned (.string DB) ∧ w' = w := by
  refine (Tryz.strings_TrimPrefix s ⟨#[45]⟩ w).mono ?_
  rintro e w' ⟨rfl, rfl⟩
  refine ⟨?_, rfl⟩
  rw [show DB = ⟨(Lib.trimPrefix s.data.toList [45]).toArray⟩ from Nm.ba_ext (by rw [h])]

theorem trimDig_any (s : ByteArray) (hs : s.size ≤ 9223372036854775807) (w : World) (TB : ByteArray) (h : TB.data.toList = Lib.trimS s.data.toList Nm.dset) : Calls Tryz.prog 144 #[.string s, .string ⟨#[48, 49, 50, 51, 52, 53, 54, 55, 56, 57]⟩] w fun e w' => e = .returned (.string TB) ∧ Below w.heap.size w w' := by
  refine (Any.strings_Trim_laid Tryz.lays160 (by kernel_rfl) s ⟨#[48, 49, 50, 51, 52, 53, 54, 55, 56, 57]⟩ w hs (by decide) (ascii_of_all (by decide))).mono ?_
  rintro e w' ⟨rfl, hb⟩
  refine ⟨?_, hb⟩
  rw [show TB = ⟨(Lib.trimS s.data.toList Nm.dset).toArray⟩ from Nm.ba_ext (by rw [h])]
  rfl

set_option maxRecDepth 100000 in
set_option maxHeartbeats 2000000 in
theorem isValid_any (s : ByteArray) (_hs : s.size ≤ 9223372036854775807) (b : Bool) (hb : b = true ↔ ∃ z, Nm.IsI s z) (w : World) :
    Calls Tryz.prog 112 #[.string s] w fun e w' => e = .returned (.bool b) ∧ Below w.heap.size w w' := by
  rw [← Nm.valid_iff] at hb
  obtain ⟨DB, hDB⟩ : ∃ DB : ByteArray, DB.data.toList = Lib.trimPrefix s.data.toList [45] := ⟨⟨(Lib.trimPrefix s.data.toList [45]).toArray⟩, rfl⟩
  have HTP := Lib.hid (fun W => trimPre_any s W DB hDB)
  rw [← hDB] at hb
  by_cases h1 : DB = ⟨#[]⟩
  · have hbf : b = false := by
      cases b
      · rfl
      · exact absurd (by rw [h1]) (hb.1 rfl).1
    subst hbf
    clear hb
    go_enter Tryz.func112, Tryz.ntmps112
    go_wp2_with (first | (go_at_call 143; refine (HTP.out _).mono ?_; rintro e w1 ⟨rfl, rfl⟩))
    go_ret
    exact ⟨rfl, Below.refl _ _⟩
  have hne : DB.data.toList ≠ [] := fun h => h1 (Nm.ba_ext (by rw [h]))
  have hE : DB.toList.isEmpty = false := by
    rw [ba_toList]
    cases hl : DB.data.toList with
    | nil => exact absurd hl hne
    | cons a l => rfl
  by_cases h2 : DB.size ≤ 200
  case neg =>
    have hbf : b = false := by
      cases b
      · rfl
      · exact absurd (hb.1 rfl).2.1 h2
    subst hbf
    have h2z : (200 : Int) < (DB.size : Int) := by omega
    clear hb hne h1 h2
    go_enter Tryz.func112, Tryz.ntmps112
    go_wp2_with (first | (go_at_call 143; refine (HTP.out _).mono ?_; rintro e w1 ⟨rfl, rfl⟩))
    go_ret
    exact ⟨rfl, Below.refl _ _⟩
  have h2z : decide ((200 : Int) < (DB.size : Int)) = false := decide_eq_false (by omega)
  obtain ⟨TB, hTB⟩ : ∃ TB : ByteArray, TB.data.toList = Lib.trimS DB.data.toList Nm.dset := ⟨⟨(Lib.trimS DB.data.toList Nm.dset).toArray⟩, rfl⟩
  have HTD := Lib.hid (fun W => trimDig_any DB (by omega) W TB hTB)
  by_cases h3 : Nm.IsDig DB.data.toList
  case neg =>
    have hbf : b = false := by
      cases b
      · rfl
      · exact absurd (hb.1 rfl).2.2.1 h3
    subst hbf
    have hE2 : TB.toList.isEmpty = false := by
      rw [ba_toList, hTB]
      cases hl : Lib.trimS DB.data.toList Nm.dset with
      | nil => exact absurd ((Nm.trimS_nil _).1 hl) h3
      | cons a l => rfl
    clear hb hne h1 h2 h3 hTB hDB
    go_enter Tryz.func112, Tryz.ntmps112
    go_wp2_with (first | (go_at_call 143; refine (HTP.out _).mono ?_; rintro e w1 ⟨rfl, rfl⟩) | (go_at_call 144; refine (HTD.out _).mono ?_; rintro e w2 ⟨rfl, hb2⟩))
    go_ret
    exact ⟨rfl, hb2⟩
  have hE2 : TB.toList.isEmpty = true := by
    rw [ba_toList, hTB, (Nm.trimS_nil _).2 h3]
    rfl
  obtain ⟨c, l, hcl⟩ : ∃ c l, DB.data.toList = c :: l := by
    cases hl : DB.data.toList with
    | nil => exact absurd hl hne
    | cons a l => exact ⟨a, l, rfl⟩
  by_cases h4 : s = ⟨#[48]⟩
  · have hbt : b = true := hb.2 ⟨hne, h2, h3, .inl (by rw [h4])⟩
    subst hbt
    have h4z : (s.toList == [48]) = true := by rw [ba_toList, h4]; rfl
    clear hb hne h1 h2 h3 hTB hDB h4
    go_enter Tryz.func112, Tryz.ntmps112
    go_wp2_with (first | (go_at_call 143; refine (HTP.out _).mono ?_; rintro e w1 ⟨rfl, rfl⟩) | (go_at_call 144; refine (HTD.out _).mono ?_; rintro e w2 ⟨rfl, hb2⟩))
    go_ret
    exact ⟨rfl, hb2⟩
  · have h4z : (s.toList == [48]) = false := by
      rw [ba_toList, beq_eq_false_iff_ne]
      intro h
      exact h4 (Nm.ba_ext h)
    have hsz : (0 : Int) < (DB.size : Int) := by
      have : DB.size = DB.data.toList.length := rfl
      rw [this, hcl]
      simp
    have hfin : ∀ h : 0 < DB.size, ((DB[0].toNat : Int) != 48) = b := by
      intro h
      have e1 : DB[0] = c := by
        have : DB.data.toList[0]? = some c := by rw [hcl]; rfl
        have h5 : DB.data.toList[0]? = some DB[0] := by
          rw [Array.getElem?_toList, Array.getElem?_eq_getElem h]; rfl
        rw [h5] at this
        exact Option.some.inj this
      rw [e1]
      by_cases hc : c = 48
      · have : b = false := by
          cases b
          · rfl
          · rcases (hb.1 rfl).2.2.2 with h6 | h6
            · exact absurd (Nm.ba_ext h6) h4
            · rw [hcl, hc] at h6
              exact absurd rfl h6
        rw [this, hc]
        rfl
      · have : b = true := hb.2 ⟨hne, h2, h3, .inr (by rw [hcl]; intro h6; exact hc (Option.some.inj h6))⟩
        rw [this]
        have h7 : c.toNat ≠ 48 := fun h8 => hc (UInt8.toNat_inj.1 h8)
        simp only [bne_iff_ne, ne_eq]
        omega
    have HF := Lib.hid hfin
    clear hb hne h1 h2 h3 hTB hDB h4 hfin
    go_enter Tryz.func112, Tryz.ntmps112
    go_wp2_with (first | (go_at_call 143; refine (HTP.out _).mono ?_; rintro e w1 ⟨rfl, rfl⟩) | (go_at_call 144; refine (HTD.out _).mono ?_; rintro e w2 ⟨rfl, hb2⟩))
    go_ret
    exact ⟨by rw [HF.out]; rfl, hb2⟩
end Go.Proofs.YtbenflnpnohcjaaGreatDoor

namespace Go.Proofs.YtbenflnpnohcjaaGreatDoor
open Go.RowKit Go.Shelf

theorem sc_at (W : World) (a : Addr) (v : Value) {c : Array Value} {t : TypeId} {f : Nat × Nat} (hs : a.spot = none) (h : W.heap[a.block]? = some (.cells c t f)) : (W.setCell a v).heap[a.block]? = some (.cells (c.setIfInBounds a.off v) t f) := by
  simp [World.setCell, Array.getElem?_modify, h, hs]
theorem sc_other (W : World) (a : Addr) (k : Nat) (v : Value) (h : k ≠ a.block) : (W.setCell a v).heap[k]? = W.heap[k]? := by
  simp only [World.setCell, Array.getElem?_modify]
  rw [if_neg (fun e => h e.symm)]
theorem sc_grown (W : World) (a : Addr) (v : Value) : W.grownBy (W.setCell a v) (some a.block) :=
  ⟨rfl, rfl, rfl, by simp [World.setCell], fun k _ hne => sc_other W a k v (fun e => hne (by rw [e]))⟩
theorem ownsRow_slice {w : World} {base n size : Nat} {e : TypeId} {v : Value} {xs : List Value} (h : w.ownsRow base e size v n xs) : ∃ ao m c, v = .slice ao m c := by
  rcases h.2 with ⟨h1, _⟩ | ⟨g, cap, cur, h1, _⟩
  · exact ⟨_, _, _, h1⟩
  · exact ⟨_, _, _, h1⟩

def tB (D : List UInt8) (k : Nat) : ByteArray := ⟨(D.take k).toArray⟩
theorem tB_size {D : List UInt8} {k : Nat} (h : k ≤ D.length) : (tB D k).size = k := by
  show (D.take k).toArray.size = k
  simp; omega

/-- Four digits, or those that are left. -/
def chB (D : List UInt8) (k : Nat) : ByteArray := ⟨((D.take k).drop (k - 4)).toArray⟩
theorem chB_eq (D : List UInt8) (k : Nat) : (tB D k).extract (k - 4) k = chB D k := by
  apply Nm.ba_ext
  rw [ByteArray.data_extract]
  simp [tB, chB]
  exact List.take_of_length_le (by simp; omega)
theorem tB_eq (D : List UInt8) (k : Nat) : (tB D k).extract 0 (k - 4) = tB D (k - 4) := by
  apply Nm.ba_ext
  rw [ByteArray.data_extract]
  simp [tB, List.take_take, Nat.min_eq_left (Nat.sub_le k 4)]
theorem atoi_dig {l : List UInt8} (h : Nm.IsDig l) (hl : l ≠ []) : Lib.atoi l = some ((Nm.dv 0 l : Nat) : Int) := by
  cases l with
  | nil => exact absurd rfl hl
  | cons b r =>
    have hb := h.cons.1
    have h1 : (b == 45) = false := by
      rw [beq_eq_false_iff_ne]; intro e; subst e; exact absurd hb.1 (by decide)
    have h2 : (b == 43) = false := by
      rw [beq_eq_false_iff_ne]; intro e; subst e; exact absurd hb.1 (by decide)
    simp only [Lib.atoi, h1, h2, Lib.decNat, List.isEmpty_cons, Bool.false_eq_true, if_false]
    rw [Nm.decFrom_dig h]
    rfl
theorem atoi_any (D : List UInt8) (hD : Nm.IsDig D) (k : Nat) (hk : k ≤ D.length) (hk0 : k ≠ 0) (w : World) :
    Calls Tryz.prog 145 #[.string (chB D k)] w fun e w' => e = .returned (.tuple #[.int .i64 (Nm.dv 0 ((D.take k).drop (k - 4)) : Nat), .nilIface]) ∧ Below w.heap.size w w' := by
  have hlen : ((D.take k).drop (k - 4)).length = k - (k - 4) := by simp; omega
  refine (Tryz.strconv_Atoi (chB D k) ((Nm.dv 0 ((D.take k).drop (k - 4)) : Nat) : Int) ?_ (atoi_dig ((hD.take k).drop (k - 4)) ?_) w).mono ?_
  · show ((D.take k).drop (k - 4)).toArray.size ≤ 18
    rw [List.size_toArray, hlen]; omega
  · intro h
    rw [show (chB D k).data.toList = (D.take k).drop (k - 4) from rfl] at h
    rw [h] at hlen
    simp at hlen
    omega
  · rintro e w' ⟨rfl, t, rfl⟩
    exact ⟨rfl, Lib.bytesWorld_below _ _ _⟩

set_option maxRecDepth 100000 in
set_option maxHeartbeats 2000000 in
theorem parse_any (z : Int) (hz : z.natAbs < Nm.lim) (w : World) :
    Calls Tryz.prog 113 #[.string (Nm.Tx z)] w fun e w' => (∃ v, e = .returned (.agg #[.bool (decide (z < 0)), v]) ∧ NumV w' v z.natAbs ∧ ∀ b, v.ownBlock = some b → w.heap.size ≤ b) ∧ Below w.heap.size w w' := by
  obtain ⟨i0, hi0, hz0, hz1, hz2⟩ := info_parts Tryz.info3
  have hu : Tryz.prog.underlying 112 = some (.slice 3) := by kernel_rfl
  have hlen := (Nm.dec_len_le _).2 hz
  have hdig := Nm.dec_isDig z.natAbs
  have hdv := Nm.dv_dec z.natAbs
  have htl := Nm.tx_len z
  have htp := Nm.tx_trim z
  have hts : (Nm.Tx z).size = (Lib.itoa z).length := rfl
  rw [← hts] at htl
  generalize Lib.decDigits z.natAbs = D at *
  have hD0 : (tB D D.length).data.toList = Lib.trimPrefix (Nm.Tx z).data.toList [45] := by rw [htp]; simp [tB]
  have HTP := Lib.hid (fun W => trimPre_any (Nm.Tx z) W (tB D D.length) hD0)
  have hneg : decide ((tB D D.length).size < (Nm.Tx z).size) = decide (z < 0) := by
    rw [tB_size (Nat.le_refl _), decide_eq_decide]
    omega
  clear hD0 htp htl hts
  go_enter Tryz.func113, Tryz.ntmps113
  go_wp2_with (first | (go_at_call 143; refine (HTP.out _).mono ?_; rintro e w1 ⟨rfl, rfl⟩))
  generalize hng : decide (z < 0) = neg at *
  clear hneg
  go_loopw [3] (fun s wr => ∃ (k : Nat) (l : List Int) (vl : Value), s = .string (tB D k) ∧ wr.heap[w.heap.size + 1]? = some (.cells #[.bool neg, vl] 114 (0, 0)) ∧ wr.ownsRow (w.heap.size + 2) 3 1 vl l.length (l.map (Value.int .i64)) ∧ Aside (Nm.PaOk D k l ∧ l.length + k ≤ D.length ∧ wr.heap[w.heap.size]? = some (.cells #[.bool false, .slice none 0 0] 114 (0, 0)) ∧ Below w.heap.size w wr)) (fun s _ => match s with | .string b => b.size | _ => 0)
  case atStart =>
    refine ⟨D.length, [], .slice none 0 0, rfl, heap_at' _ _ (by simp), by simp [World.ownsRow], Nm.PaOk.zero D, by simp, ?_, ?_⟩
    · rw [heap_past' _ _ (by simp), heap_at' _ _ rfl]
    · exact ((Below.refl _ w).alloc (Nat.le_refl _) _).alloc (by simp) _
  case round =>
    obtain ⟨k, l, vl, rfl, hx, hown, has⟩ := hrel
    have hkD := has.out.1.le
    have hsz := tB_size hkD
    have c1 : wr.cell? ⟨w.heap.size + 1, 1, none⟩ = some vl := by simp [World.cell?, hx]
    have f1 : wr.frozen? ⟨w.heap.size + 1, 1, none⟩ = false := by simp [World.frozen?, hx]
    have n1 : w.heap.size + 1 < wr.heap.size := (Array.getElem?_eq_some_iff.1 hx).1
    by_cases hk0 : k = 0
    · subst hk0
      have htr := has.out.1.done
      rw [hdv] at htr
      have hll : l.length ≤ 1000000 := by have := has.out.2.1; omega
      have HT := Lib.hid (numV_trim (w := wr) (base := w.heap.size + 2) hown htr hll)
      have HX := Lib.hid (And.intro hx (And.intro hown has.out.2.2))
      have c0 : wr.cell? ⟨w.heap.size + 1, 0, none⟩ = some (.bool neg) := by simp [World.cell?, hx]
      have hr := has.out.2.2.1
      have r0 : wr.cell? ⟨w.heap.size, 0, none⟩ = some (.bool false) := by simp [World.cell?, hr]
      have r1 : wr.cell? ⟨w.heap.size, 1, none⟩ = some (.slice none 0 0) := by simp [World.cell?, hr]
      have r2 : wr.frozen? ⟨w.heap.size, 0, none⟩ = false := by simp [World.frozen?, hr]
      have r3 : wr.frozen? ⟨w.heap.size, 1, none⟩ = false := by simp [World.frozen?, hr]
      clear hx hr has
      go_wp2_with (first | (go_at_call 122; refine HT.out.mono ?_; rintro e w2 ⟨⟨v', rfl, hv', ho'⟩, rfl⟩; have HV := Lib.hid (And.intro hv' ho'); obtain ⟨A1, c1', hveq, _⟩ := hv'; subst hveq))
      obtain ⟨hx, hown2, hr, hB⟩ := HX.out
      have hres := sc_at ((wr.setCell ⟨w.heap.size + 1, 1, none⟩ (.slice A1 (Nm.grp 10000 z.natAbs).length c1')).setCell ⟨w.heap.size, 0, none⟩ (.bool neg)) ⟨w.heap.size, 1, none⟩ (.slice A1 (Nm.grp 10000 z.natAbs).length c1') rfl
        (sc_at (wr.setCell ⟨w.heap.size + 1, 1, none⟩ (.slice A1 (Nm.grp 10000 z.natAbs).length c1')) ⟨w.heap.size, 0, none⟩ (.bool neg) rfl ((sc_other wr ⟨w.heap.size + 1, 1, none⟩ w.heap.size _ (by simp)).trans hr))
      refine bodyPost_ret (results_cell_row rfl _ _ _ _ _ _ _ rfl hres Tryz.underlying114 rfl (by kernel_rfl)) rfl ⟨⟨.slice A1 (Nm.grp 10000 z.natAbs).length c1', by rw [hng]; rfl, ?_, fun b hb => by have := HV.out.2 b hb; omega⟩, ?_⟩
      · obtain ⟨⟨A2, c2, hveq, q1, q2⟩, ho⟩ := HV.out
        cases hveq
        refine ⟨_, _, rfl, ?_, q2⟩
        refine q1.kps ((((KpS.refl (fun k _ => k < w.heap.size + 2) wr).setCell (p := ⟨w.heap.size + 1, 1, none⟩) (fun _ _ _ _ => by simp) _).setCell (p := ⟨w.heap.size, 0, none⟩) (fun _ _ _ _ => by simp) _).setCell (p := ⟨w.heap.size, 1, none⟩) (fun _ _ _ _ => by simp) _) ?_
        intro ad had _ t h
        have := ho ad.block (by rw [had]; rfl)
        omega
      · exact ((hB.setCell (p := ⟨w.heap.size + 1, 1, none⟩) (by simp) _).setCell (p := ⟨w.heap.size, 0, none⟩) (by simp) _).setCell (p := ⟨w.heap.size, 1, none⟩) (by simp) _
    · have hkz : (0 : Int) < (k : Int) := by omega
      have hw : IntKind.i64.wrap ((k : Int) - 4) = (k : Int) - 4 := IntWalk.i64_in _ (by omega)
      have hm : max 0 ((k : Int) - 4) = ((k - 4 : Nat) : Int) := by omega
      have hx1 := chB_eq D k
      have hx2 := tB_eq D k
      have HA := Lib.hid (atoi_any D hdig k hkD hk0 wr)
      have hst := has.out.1.step hdig (by omega)
      generalize Nm.dv 0 ((D.take k).drop (k - 4)) = x at *
      have HST := Lib.hid hst
      have HX := Lib.hid hx
      clear hst hx
      have HX2 := Lib.hid has.out.2
      have hs1 := has.out.2.2.2.size
      go_wp2_with (first | (go_at_call 145; refine HA.out.mono ?_; rintro e w2 ⟨rfl, hb2⟩; have c2 := cell_below hb2 c1; have f2 := (hb2.frozen (World.block_lt_of_cell? _ _ c1)).trans f1; have hown2 := ownsRow_bel hown hb2; have hs2 := hb2.size) | (at_builtin; refine wpList_append_own _ rfl _ _ 112 rfl (w.heap.size + 2) 3 i0 (.int .i64 0) 1 8 hu hi0 hz0 hz1 hz2 rfl (by decide) _ _ _ rfl (hown2.alloc _) ⟨w2.heap.size, 0, none⟩ 1 1 [.int .i64 (x : Nat)] rfl rfl ?c1 ?c2 ?c3 ?c4 ?c5 ?_; rotate_left 5; intro v' w3 hown' hgrow _; have hbn : Below (w.heap.size + 2) wr w3 := (hb2.mono (by omega)).trans (((Below.refl _ w2).alloc (by omega) _).grown hgrow (by simp; omega) (fun k hk => (hown2.lt k hk).1)); have HBN := Lib.hid hbn; have c3 := (hbn.cell (p := ⟨w.heap.size + 1, 1, none⟩) (by simp)).trans c1; have f3 := (hbn.frozen (p := ⟨w.heap.size + 1, 1, none⟩) (by simp)).trans f1; obtain ⟨ao, n', cp, hveq⟩ := ownsRow_slice hown'; have HOWN := Lib.hid hown'; clear hown' hgrow hbn; subst hveq))
      case c1 => exact cell_one_new _ _ _
      case c2 => intro u hu; simp at hu; subst hu; rfl
      case c3 => unfold maxLen; have := HX2.out.1; omega
      case c4 => have := HX2.out.1; omega
      case c5 => simp; omega
      have hx3 := (HBN.out.block (w.heap.size + 1) (by omega)).trans HX.out
      refine ⟨⟨k - 4, l ++ [(x : Int)], _, rfl, (sc_at w3 ⟨w.heap.size + 1, 1, none⟩ _ rfl hx3).trans rfl, ?_, HST.out, ?_, ?_, ?_⟩, ?_⟩
      · rw [List.length_append]
        refine World.ownsRow.kept (w := w3) (row := some (w.heap.size + 1)) (by simpa using HOWN.out) (sc_grown w3 ⟨w.heap.size + 1, 1, none⟩ _) ?_
        refine .inr (fun e => ?_)
        have := (HOWN.out.lt _ e).1
        omega
      · have := HX2.out.1
        simp; omega
      · rw [sc_other _ _ _ _ (by simp)]
        exact (HBN.out.block _ (by omega)).trans HX2.out.2.1
      · exact (HX2.out.2.2.trans (HBN.out.mono (by omega))).setCell (p := ⟨w.heap.size + 1, 1, none⟩) (by simp) _
      · simp only [tB_size hkD, tB_size (Nat.le_trans (Nat.sub_le k 4) hkD)]
        omega
end Go.Proofs.YtbenflnpnohcjaaGreatDoor

/- Which strings are integers: isValid. -/
import Derived.Test.YtbenflnpnohcjaaGreatDoorN10
import Derived.Shelf.Strings.SlTrimAscii
namespace Go.Proofs.YtbenflnpnohcjaaGreatDoor
open Go.RowKit Go.Shelf

theorem ba_toList (s : ByteArray) : s.toList = s.data.toList := by
  exact ByteArray.toList_eq s

theorem trimPre_any (s : ByteArray) (w : World) (DB : ByteArray) (h : DB.data.toList = Lib.trimPrefix s.data.toList [45]) : Calls Tryz.prog 143 #[.string s, .string ⟨#[45]⟩] w fun e w' => e = .returned (.string DB) ∧ w' = w := by
  refine (Tryz.strings_TrimPrefix s ⟨#[45]⟩ w).mono ?_
  rintro e w' ⟨rfl, rfl⟩
  refine ⟨?_, rfl⟩
  rw [show DB = ⟨(Lib.trimPrefix s.data.toList [45]).toArray⟩ from Nm.ba_ext (by rw [h])]

theorem trimDig_any (s : ByteArray) (hs : s.size ≤ 9223372036854775807) (w : World) (TB : ByteArray) (h : TB.data.toList = Lib.trimS s.data.toList Nm.dset) : Calls Tryz.prog 144 #[.string s, .string ⟨#[48, 49, 50, 51, 52, 53, 54, 55, 56, 57]⟩] w fun e w' => e = .returned (.string TB) ∧ Below w.heap.size w w' := by
  refine (Any.strings_Trim_laid Tryz.lays160 (by kernel_rfl) s ⟨#[48, 49, 50, 51, 52, 53, 54, 55, 56, 57]⟩ w hs (by decide) (ascii_of_all (by decide))).mono ?_
  rintro e w' ⟨rfl, hb⟩
  refine ⟨?_, hb⟩
  rw [show TB = ⟨(Lib.trimS s.data.toList Nm.dset).toArray⟩ from Nm.ba_ext (by rw [h])]
  rfl

set_option maxRecDepth 100000 in
set_option maxHeartbeats 2000000 in
theorem isValid_any (s : ByteArray) (hs : s.size ≤ 9223372036854775807) (b : Bool) (hb : b = true ↔ ∃ z, Nm.IsI s z) (w : World) :
    Calls Tryz.prog 112 #[.string s] w fun e w' => e = .returned (.bool b) ∧ Below w.heap.size w w' := by
  rw [← Nm.valid_iff] at hb
  obtain ⟨DB, hDB⟩ : ∃ DB : ByteArray, DB.data.toList = Lib.trimPrefix s.data.toList [45] := ⟨⟨(Lib.trimPrefix s.data.toList [45]).toArray⟩, rfl⟩
  have HTP := Lib.hid (fun W => trimPre_any s W DB hDB)
  rw [← hDB] at hb
  by_cases h1 : DB = ⟨#[]⟩
  · have hbf : b = false := by
      cases b
      · rfl
      · exact absurd (by rw [h1]) (hb.1 rfl).1
    subst hbf
    clear hb
    go_enter Tryz.func112, Tryz.ntmps112
    go_wp2_with (first | (go_at_call 143; refine (HTP.out _).mono ?_; rintro e w1 ⟨rfl, rfl⟩))
    go_ret
    exact ⟨rfl, Below.refl _ _⟩
  have hne : DB.data.toList ≠ [] := fun h => h1 (Nm.ba_ext (by rw [h]))
  have hE : DB.toList.isEmpty = false := by
    rw [ba_toList]
    cases hl : DB.data.toList with
    | nil => exact absurd hl hne
    | cons a l => rfl
  by_cases h2 : DB.size ≤ 200
  case neg =>
    have hbf : b = false := by
      cases b
      · rfl
      · exact absurd (hb.1 rfl).2.1 h2
    subst hbf
    have h2z : (200 : Int) < (DB.size : Int) := by omega
    clear hb hne h1 h2
    go_enter Tryz.func112, Tryz.ntmps112
    go_wp2_with (first | (go_at_call 143; refine (HTP.out _).mono ?_; rintro e w1 ⟨rfl, rfl⟩))
    go_ret
    exact ⟨rfl, Below.refl _ _⟩
  have h2z : decide ((200 : Int) < (DB.size : Int)) = false := decide_eq_false (by omega)
  obtain ⟨TB, hTB⟩ : ∃ TB : ByteArray, TB.data.toList = Lib.trimS DB.data.toList Nm.dset := ⟨⟨(Lib.trimS DB.data.toList Nm.dset).toArray⟩, rfl⟩
  have HTD := Lib.hid (fun W => trimDig_any DB (by omega) W TB hTB)
  by_cases h3 : Nm.IsDig DB.data.toList
  case neg =>
    have hbf : b = false := by
      cases b
      · rfl
      · exact absurd (hb.1 rfl).2.2.1 h3
    subst hbf
    have hE2 : TB.toList.isEmpty = false := by
      rw [ba_toList, hTB]
      cases hl : Lib.trimS DB.data.toList Nm.dset with
      | nil => exact absurd ((Nm.trimS_nil _).1 hl) h3
      | cons a l => rfl
    clear hb hne h1 h2 h3 hTB hDB
    go_enter Tryz.func112, Tryz.ntmps112
    go_wp2_with (first | (go_at_call 143; refine (HTP.out _).mono ?_; rintro e w1 ⟨rfl, rfl⟩) | (go_at_call 144; refine (HTD.out _).mono ?_; rintro e w2 ⟨rfl, hb2⟩))
    go_ret
    exact ⟨rfl, hb2⟩
  have hE2 : TB.toList.isEmpty = true := by
    rw [ba_toList, hTB, (Nm.trimS_nil _).2 h3]
    rfl
  obtain ⟨c, l, hcl⟩ : ∃ c l, DB.data.toList = c :: l := by
    cases hl : DB.data.toList with
    | nil => exact absurd hl hne
    | cons a l => exact ⟨a, l, rfl⟩
  by_cases h4 : s = ⟨#[48]⟩
  · have hbt : b = true := hb.2 ⟨hne, h2, h3, .inl (by rw [h4])⟩
    subst hbt
    have h4z : (s.toList == [48]) = true := by rw [ba_toList, h4]; rfl
    clear hb hne h1 h2 h3 hTB hDB h4
    go_enter Tryz.func112, Tryz.ntmps112
    go_wp2_with (first | (go_at_call 143; refine (HTP.out _).mono ?_; rintro e w1 ⟨rfl, rfl⟩) | (go_at_call 144; refine (HTD.out _).mono ?_; rintro e w2 ⟨rfl, hb2⟩))
    go_ret
    exact ⟨rfl, hb2⟩
  · have h4z : (s.toList == [48]) = false := by
      rw [ba_toList, beq_eq_false_iff_ne]
      intro h
      exact h4 (Nm.ba_ext h)
    have hsz : (0 : Int) < (DB.size : Int) := by
      have : DB.size = DB.data.toList.length := rfl
      rw [this, hcl]
      simp
    have hfin : ∀ h : 0 < DB.size, ((DB[0].toNat : Int) != 48) = b := by
      intro h
      have e1 : DB[0] = c := by
        have : DB.data.toList[0]? = some c := by rw [hcl]; rfl
        have h5 : DB.data.toList[0]? = some DB[0] := by
          rw [Array.getElem?_toList, Array.getElem?_eq_getElem h]; rfl
        rw [h5] at this
        exact Option.some.inj this
      rw [e1]
      by_cases hc : c = 48
      · have : b = false := by
          cases b
          · rfl
          · rcases (hb.1 rfl).2.2.2 with h6 | h6
            · exact absurd (Nm.ba_ext h6) h4
            · rw [hcl, hc] at h6
              exact absurd rfl h6
        rw [this, hc]
        rfl
      · have : b = true := hb.2 ⟨hne, h2, h3, .inr (by rw [hcl]; intro h6; exact hc (Option.some.inj h6))⟩
        rw [this]
        have h7 : c.toNat ≠ 48 := fun h8 => hc (UInt8.toNat_inj.1 h8)
        simp only [bne_iff_ne, ne_eq]
        omega
    have HF := Lib.hid hfin
    clear hb hne h1 h2 h3 hTB hDB h4 hfin
    go_enter Tryz.func112, Tryz.ntmps112
    go_wp2_with (first | (go_at_call 143; refine (HTP.out _).mono ?_; rintro e w1 ⟨rfl, rfl⟩) | (go_at_call 144; refine (HTD.out _).mono ?_; rintro e w2 ⟨rfl, hb2⟩))
    go_ret
    exact ⟨by rw [HF.out]; rfl, hb2⟩
end Go.Proofs.YtbenflnpnohcjaaGreatDoor

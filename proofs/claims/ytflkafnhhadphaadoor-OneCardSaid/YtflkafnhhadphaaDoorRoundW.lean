/- narkeep.Round walked. -/
import Derived.Test.YtflkafnhhadphaaDoorChecked
import Derived.Test.YtflkafnhhadphaaDoorKeepR
import Derived.Test.YtflkafnhhadphaaDoorRoundP
import Derived.Test.YtflkafnhhadphaaDoorBrok
namespace Go.Proofs.YtflkafnhhadphaaDoor
open Go Go.RowKit
set_option linter.unusedVariables false

set_option maxHeartbeats 1600000 in
set_option maxRecDepth 100000 in
theorem round_walk (s : ByteArray) (n : Int) (w : World) (hT : Tabs w) (hs47 : s.size ≤ 140737488355328) (hn1 : -9223372036854775808 ≤ n) (hn2 : n ≤ 9223372036854775807) :
    Calls Tryd.prog 6 #[.string s, .int .i64 n] w fun e w' => e = .returned (.bool true) ∧ Keeps Non w w' := by
  by_cases hs : 16384 < s.size
  · go_enter Tryd.func6, Tryd.ntmps6
    go_wp2_with fail
    go_ret
    exact ⟨rfl, Keeps.refl _ _⟩
  · have HT := Lib.hid hT
    clear hT
    go_enter Tryd.func6, Tryd.ntmps6
    go_wp2_with fail
    refine (grown_any s _ (by omega)).mono ?_
    rintro e w1 ⟨v, l, rfl, hg, hsl, hk⟩
    obtain ⟨al, cl, rfl, hl1, hl2⟩ := hsl.shape
    unfold maxLen at hl2
    obtain ⟨hlp, hl30⟩ := hg.len
    have HSM := Lib.hid hg.small
    have hgood := hg.good
    have h8 := pack_8 hgood
    have hread := read_pack hgood
    have hless := read_less hgood
    have hmore := read_more hgood 0
    have HR1 := Lib.hid hsl.rd
    have HK1 := Lib.hid hk
    have hcall := npack_good _ l _ hsl.rd (HT.out.keeps hk) HSM.out.1 hgood (Nat.le_trans HSM.out.2 (by omega))
    have hpl := HSM.out.2
    generalize packP l = PB at *
    have HC := Lib.hid hcall
    have HREAD := Lib.hid hread
    have HLESS := Lib.hid hless
    have HMORE := Lib.hid hmore
    obtain ⟨h81, h82⟩ := h8
    clear hg hsl hk hcall hread hless hmore hgood HSM
    have q1 : ((PB.length : Int) % 8 == 0) = true := by rw [beq_iff_eq]; omega
    have q2 : ((PB.length : Int) % 8 != 0) = false := by unfold bne; rw [q1]; rfl
    have q3 : decide ((PB.length : Int) < 64) = false := decide_eq_false (by omega)
    have q4 : decide (PB.length < 64) = false := decide_eq_false (by omega)
    go_wp2_with fail
    refine HC.out.mono ?_
    rintro e w2 ⟨rfl, hk2⟩
    have HK2 : Hid (Keeps Non w w2) := HK1.out.trans hk2 (fun k hk => .inl hk)
    have HR2 := Lib.hid (HR1.out.non hk2)
    have hcall := kread_any ⟨PB.toArray⟩ n w2 (HT.out.keeps HK2.out) (by show PB.toArray.size ≤ _; simp; omega) hn1 hn2
    rw [show (⟨PB.toArray⟩ : ByteArray).data.toList = PB from rfl, HREAD.out] at hcall
    have HC2 := Lib.hid hcall
    clear hk2 hcall HC HK1 HR1
    go_wp2_with fail
    refine HC2.out.mono ?_
    rintro e w3 ⟨⟨v3, rfl, hr3, -⟩, hk3⟩
    have HK3 : Hid (Keeps Non w w3) := HK2.out.trans hk3 (fun k hk => .inl hk)
    have HR23 := Lib.hid (HR2.out.non hk3)
    have HR3 : Hid (Rd w3 3 v3 l.length (nodeCells l)) := hr3
    have e1 : IntKind.i64.wrap ((PB.length : Int) - 1) = (PB.length : Int) - 1 := IntWalk.i64_in _ (by omega)
    have e2 : (0 : Int) ≤ (PB.length : Int) - 1 := by omega
    have e3 : (PB.length : Int) - 1 ≤ (PB.length : Int) := by omega
    have e4 : ((PB.length : Int) - 1).toNat = PB.length - 1 := by omega
    have hless2 : ((⟨PB.toArray⟩ : ByteArray).extract 0 (PB.length - 1)).data.toList = PB.dropLast := by
      rw [ext_list, List.drop_zero, Nat.sub_zero, List.dropLast_eq_take]
    have hcall := kread_any ((⟨PB.toArray⟩ : ByteArray).extract 0 (PB.length - 1)) n w3 (HT.out.keeps HK3.out) (by rw [ByteArray.size_extract]; show min _ PB.toArray.size - 0 ≤ _; simp; omega) hn1 hn2
    rw [hless2, HLESS.out] at hcall
    have HC3 := Lib.hid hcall
    clear hk3 hr3 hcall HC2 HK2 HR2 hless2
    go_wp2_with fail
    refine HC3.out.mono ?_
    rintro e w4 ⟨⟨v4, rfl, hr4, -⟩, hk4⟩
    have HK4 : Hid (Keeps Non w w4) := HK3.out.trans hk4 (fun k hk => .inl hk)
    have HR24 := Lib.hid (HR23.out.non hk4)
    have HR34 := Lib.hid (HR3.out.non hk4)
    have hmore2 : (⟨PB.toArray⟩ : ByteArray) ++ ⟨#[0]⟩ = ⟨(PB ++ [0]).toArray⟩ := str_app PB [0]
    have hcall := kread_any ((⟨PB.toArray⟩ : ByteArray) ++ ⟨#[0]⟩) n w4 (HT.out.keeps HK4.out) (by rw [hmore2]; show (PB ++ [0]).toArray.size ≤ _; simp; omega) hn1 hn2
    rw [show ((⟨PB.toArray⟩ : ByteArray) ++ ⟨#[0]⟩).data.toList = PB ++ [0] by rw [hmore2], HMORE.out] at hcall
    have HC4 := Lib.hid hcall
    clear hk4 hr4 hcall HC3 HK3 HR23 HR3 hmore2
    go_wp2_with fail
    refine HC4.out.mono ?_
    rintro e w5 ⟨⟨v5, rfl, hr5, -⟩, hk5⟩
    have HK5 : Hid (Keeps Non w w5) := HK4.out.trans hk5 (fun k hk => .inl hk)
    have HR25 := Lib.hid (HR24.out.non hk5)
    have HR35 := Lib.hid (HR34.out.non hk5)
    clear hk5 hr5 HC4 HK4 HR24 HR34
    go_wp2_with fail
    refine (same_any _ v3 l _ HR25.out HR35.out (by omega)).mono ?_
    rintro e w6 ⟨rfl, hk6⟩
    have HK6 : Hid (Keeps Non w w6) := HK5.out.trans hk6 (fun k hk => .inl hk)
    clear hk6
    go_wp2_with fail
    go_ret
    exact ⟨rfl, HK6.out⟩
end Go.Proofs.YtflkafnhhadphaaDoor

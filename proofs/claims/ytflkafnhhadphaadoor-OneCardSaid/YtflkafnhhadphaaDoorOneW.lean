/- narkeep.One walked. -/
import Derived.Test.YtflkafnhhadphaaDoorChecked
import Derived.Test.YtflkafnhhadphaaDoorRoundW
namespace Go.Proofs.YtflkafnhhadphaaDoor
open Go Go.RowKit
set_option linter.unusedVariables false

theorem dataB_len {k : Int} {d : List UInt8} (h : dataB k d = true) : d.length ≤ 100 := by
  unfold dataB at h
  split at h
  · simp only [Bool.and_eq_true, decide_eq_true_eq] at h; exact h.1.2
  · split at h
    · have : d = [] := by simpa using h
      rw [this]; simp
    · split at h
      · simpa using h
      · cases h
theorem join_len (p s : List UInt8) : (joinP p s).length ≤ p.length + 1 + s.length := by
  unfold joinP; split
  · omega
  · simp only [List.length_append, List.length_cons]; omega
theorem VF.short {d : Nat} {p last : List UInt8} {r : List Node} (h : VF d p last r) : ∀ z ∈ r, z.path.length ≤ p.length + 49 * d ∧ z.data.length ≤ 100 := by
  induction h with
  | nil => intro z hz; cases hz
  | leaf d p last s y r h1 h2 h3 h4 h5 h6 ih =>
    intro z hz
    rcases List.mem_cons.1 hz with rfl | hz
    · have := join_len p s
      have := name_len h2
      rw [h1]
      exact ⟨by omega, dataB_len h5⟩
    · exact ih z hz
  | dir d p last s y sub r h1 h2 h3 h4 h5 h6 h7 ih1 ih2 =>
    intro z hz
    have := join_len p s
    have := name_len h2
    rcases List.mem_cons.1 hz with rfl | hz
    · rw [h1, h5]
      exact ⟨by omega, by simp⟩
    · rcases List.mem_append.1 hz with hz | hz
      · have := ih1 z hz; omega
      · exact ih2 z hz
theorem wrong_small {l : List Node} (h : wrongL l = -1) : NodesSmall l := by
  obtain ⟨x, r, rfl, ⟨hp, h2⟩, hl⟩ := VN_of_wrong h
  intro z hz
  have key : z.path.length ≤ 245 ∧ z.data.length ≤ 100 := by
    rcases List.mem_cons.1 hz with rfl | hz
    · rw [hp]
      refine ⟨by simp, ?_⟩
      rcases h2 with ⟨_, _, hd⟩ | ⟨_, hd, _⟩
      · exact dataB_len hd
      · rw [hd]; simp
    · rcases h2 with ⟨_, hr, _⟩ | ⟨_, _, hv⟩
      · rw [hr] at hz; cases hz
      · have := hv.short z hz
        simp at this
        omega
  omega
set_option maxHeartbeats 1600000 in
set_option maxRecDepth 100000 in
theorem one_walk (s : ByteArray) (n : Int) (w : World) (hT : Tabs w) (hs47 : s.size ≤ 140737488355328) (hn1 : -9223372036854775808 ≤ n) (hn2 : n ≤ 9223372036854775807) :
    Calls Tryd.prog 7 #[.string s, .int .i64 n] w fun e w' => e = .returned (.bool true) ∧ Keeps Non w w' := by
  by_cases hs : 16384 < s.size
  · go_enter Tryd.func7, Tryd.ntmps7
    go_wp2_with fail
    go_ret
    exact ⟨rfl, Keeps.refl _ _⟩
  · have HT := Lib.hid hT
    clear hT
    have hsl := dlen s
    have hfair := read_fair s.data.toList
    have hpack := fun (l : List Node) (b : Int) (h : readL s.data.toList = (l, 0, b)) => pack_read h
    go_enter Tryd.func7, Tryd.ntmps7
    go_wp2_with fail
    refine (round_walk ⟨#[97, 98, 99, 100, 101, 102]⟩ 5 w HT.out (by show (6 : Nat) ≤ _; omega) (by omega) (by omega)).mono ?_
    rintro e w1 ⟨rfl, hk1⟩
    have HK1 := Lib.hid hk1
    have hcall1 := kread_any s 0 w1 (HT.out.keeps hk1) (by omega) (by omega) (by omega)
    have hcall2 := fun (w2 : World) (h : Keeps Non w w2) => kread_any s n w2 (HT.out.keeps h) (by omega) hn1 hn2
    generalize readL s.data.toList = R at *
    obtain ⟨L, E, A⟩ := R
    have HC1 := Lib.hid hcall1
    have HC2 : Hid (∀ w2 : World, Keeps Non w w2 → Calls Tryd.prog 20 #[.string s, .int .i64 n] w2 (KReadPost (L, E, A) w2)) := hcall2
    have HFAIR := Lib.hid hfair
    have HPACK : Hid (∀ (l : List Node) (b : Int), (L, E, A) = (l, 0, b) → wrongL l = -1 ∧ packP l = s.data.toList) := hpack
    clear hk1 hcall1 hcall2 hfair hpack
    have b1 : (E != E) = false := by simp
    have b2 : (A != A) = false := by simp
    have b3 : (E == E) = true := by simp
    have b4 : (A == A) = true := by simp
    go_wp2_with fail
    refine HC1.out.mono ?_
    rintro e w2 ⟨⟨v2, rfl, hr2, hl2⟩, hk2⟩
    have HK2 : Hid (Keeps Non w w2) := HK1.out.trans hk2 (fun k hk => .inl hk)
    have HR2 : Hid (Rd w2 3 v2 L.length (nodeCells L)) := hr2
    have hl2 : L.length ≤ 549755813888 := hl2
    clear hk2 hr2 HC1 HK1
    go_wp2_with fail
    refine (HC2.out _ HK2.out).mono ?_
    rintro e w3 ⟨⟨v3, rfl, hr3, -⟩, hk3⟩
    have HK3 : Hid (Keeps Non w w3) := HK2.out.trans hk3 (fun k hk => .inl hk)
    have HR23 := Lib.hid (HR2.out.non hk3)
    have HR3 : Hid (Rd w3 3 v3 L.length (nodeCells L)) := hr3
    clear hk3 hr3 HC2 HK2 HR2
    obtain ⟨a2, c2, rfl, -, -⟩ := HR23.out.shape
    go_wp2_with fail
    refine (same_any _ v3 L _ HR23.out HR3.out (by omega)).mono ?_
    rintro e w4 ⟨rfl, hk4⟩
    have HK4 : Hid (Keeps Non w w4) := HK3.out.trans hk4 (fun k hk => .inl hk)
    have HR4 := Lib.hid (HR23.out.non hk4)
    clear hk4 HK3 HR23 HR3
    by_cases he : E = 0
    · subst he
      have c1 : ((0 : Int) != 0) = false := rfl
      obtain ⟨hw, hp⟩ := HPACK.out L A rfl
      have hpl : (packP L).length ≤ 16384 := by rw [hp, hsl]; omega
      have hcall := npack_good _ L _ HR4.out (HT.out.keeps HK4.out) (wrong_small hw) hw (by omega)
      rw [hp] at hcall
      have HC := Lib.hid hcall
      have c5 : (s.toList == s.toList) = true := beq_self_eq_true _
      have c6 : (s.data.toList == s.toList) = true := by rw [ByteArray.toList_eq]; exact beq_self_eq_true _
      clear hcall hp hw hpl
      go_wp2_with fail
      refine HC.out.mono ?_
      rintro e w5 ⟨rfl, hk5⟩
      have HK5 : Hid (Keeps Non w w5) := HK4.out.trans hk5 (fun k hk => .inl hk)
      clear hk5 HC
      go_wp2_with fail
      go_ret
      exact ⟨rfl, HK5.out⟩
    · have c1 : (E == 0) = false := by rw [beq_eq_false_iff_ne]; exact he
      have c2 : (E != 0) = true := by unfold bne; rw [c1]; rfl
      rcases HFAIR.out with ⟨h0, _⟩ | ⟨h1, h2, h3, h4, -⟩
      · exact absurd h0 he
      have h1 : L = [] := h1
      have h3 : 0 ≤ A := h3
      have h4 : A ≤ (s.data.toList.length : Int) := h4
      rw [hsl] at h4
      subst h1
      have c3 : decide (0 ≤ A) = true := decide_eq_true h3
      have c4 : decide (A ≤ (s.size : Int)) = true := decide_eq_true h4
      clear h2
      go_wp2_with fail
      go_ret
      exact ⟨rfl, HK4.out⟩
end Go.Proofs.YtflkafnhhadphaaDoor

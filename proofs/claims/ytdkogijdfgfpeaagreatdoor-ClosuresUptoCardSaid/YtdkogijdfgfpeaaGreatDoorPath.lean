/- store.path: is a text a path of a store. -/
import Derived.Test.YtdkogijdfgfpeaaGreatDoorChecked
import Derived.Test.YtdkogijdfgfpeaaGreatDoorLib
import Derived.Lib.OthersKept
import Derived.Lib.TrimU
import Derived.Laws.RangeAny
import Derived.Deep.LoopGhost
import Derived.Deep.QuietTactic
import Derived.Deep.DeepCutAuto
import Derived.WalkMore
namespace Go.Proofs.YtdkogijdfgfpeaaGreatDoor
open Go Go.RowKit
set_option linter.unusedVariables false

def letterP (c : UInt8) : Bool := (decide (97 ≤ c.toNat) && decide (c.toNat ≤ 122)) || (decide (48 ≤ c.toNat) && decide (c.toNat ≤ 57)) || c == 45
/-- is a text a path of a store -/
def pathB (s : List UInt8) : Bool := s.all letterP && !s.isEmpty && decide (s.length ≤ 12)
/-- the letters of a path -/
abbrev abc : ByteArray := ⟨#[97, 98, 99, 100, 101, 102, 103, 104, 105, 106, 107, 108, 109, 110, 111, 112, 113, 114, 115, 116, 117, 118, 119, 120, 121, 122, 48, 49, 50, 51, 52, 53, 54, 55, 56, 57, 45]⟩
theorem abc_low : ∀ b ∈ abc.data.toList, b.toNat < 128 := by decide
theorem indexByte_none : ∀ (l : List UInt8) (c : UInt8), (∀ b ∈ l, b ≠ c) → Lib.indexByte l c = -1
  | [], _, _ => rfl
  | b :: l, c, h => by
    have hb : (b == c) = false := by simpa using h b (List.mem_cons_self ..)
    rw [Lib.indexByte, hb, indexByte_none l c fun x hx => h x (List.mem_cons_of_mem _ hx)]
    rfl
set_option maxRecDepth 1000000 in
theorem abc_letter (c : UInt8) : decide (0 ≤ Lib.indexByte abc.data.toList c) = letterP c := by
  have h : ∀ n : Fin 256, decide (0 ≤ Lib.indexByte abc.data.toList (UInt8.ofNat n.val)) = letterP (UInt8.ofNat n.val) := by decide
  have := h ⟨c.toNat, c.toNat_lt⟩
  rw [UInt8.ofNat_toNat] at this
  exact this
set_option maxHeartbeats 800000 in
set_option maxRecDepth 1000000 in
theorem runeLow_any (c : UInt8) (h : c.toNat < 128) (w : World) :
    Calls Tryz.prog 119 #[.string abc, .int .i32 c.toNat] w fun e w' => e = .returned (.int .i64 (Lib.indexByte abc.data.toList c)) ∧ w = w' := by
  go_enter Tryz.func119, Tryz.ntmps119
  go_wp2_with fail
  refine (indexByte_any _ _ _).mono ?_
  rintro e w' ⟨rfl, rfl⟩
  go_wp2_with fail
  go_ret
  exact ⟨rfl, rfl⟩
theorem decode_abc (pos : Nat) (h : pos < abc.size) : Utf8.decode abc pos = ((abc[pos]'h).toNat, 1) ∧ (abc[pos]'h).toNat < 128 := by
  have hl : (abc[pos]'h).toNat < 128 := abc_low _ (by
    show abc.data[pos] ∈ _
    rw [← Array.getElem_toList]
    exact List.getElem_mem _)
  exact ⟨decode_ascii abc pos h hl, hl⟩
set_option maxHeartbeats 800000 in
set_option maxRecDepth 1000000 in
theorem runeErr_any (w : World) :
    Calls Tryz.prog 119 #[.string abc, .int .i32 65533] w fun e w' => e = .returned (.int .i64 (-1)) ∧ Keeps Non w w' := by
  go_enter Tryz.func119, Tryz.ntmps119
  go_wp2_with fail
  go_loopg [] 37 (fun g wx => ∃ pos : Nat, g = 37 - pos ∧ wx.heap[w.heap.size]? = some (.stringIter abc pos) ∧ Below w.heap.size w wx ∧ pos ≤ 37)
  case atStart => exact ⟨0, rfl, World.iter_heap w abc 0, (Below.refl _ w).alloc (Nat.le_refl _) _, by omega⟩
  case round =>
    obtain ⟨pos, rfl, hit, hbw, hle⟩ := hrel
    by_cases hp : pos < abc.size
    · have hnx : ∀ ty, (Instr.next (.pointer (some ⟨w.heap.size, 0, none⟩)) true ty).run Tryz.prog wr = _ := fun ty => Lib.run_next_any_at wr w.heap.size abc pos ty hit hp
      obtain ⟨h1, h2⟩ := decode_abc pos hp
      obtain ⟨R, hR⟩ : ∃ R, (abc[pos]'hp).toNat = R := ⟨_, rfl⟩
      rw [h1, hR] at hnx
      rw [hR] at h2
      have hit2 := Lib.iterAt_heap wr w.heap.size abc pos (pos + 1) hit
      have hbw2 := Lib.below_iterAt hbw (k := w.heap.size) (Nat.le_refl _) abc (pos + 1)
      simp only at hnx
      have h3 : pos < 37 := hp
      have hne : ((R : Int) == 65533) = false := by rw [beq_eq_false_iff_ne]; omega
      clear h1 hR hp
      go_wp2_with fail
      go_roundg (37 - (pos + 1))
      case measure => omega
      case rel => exact ⟨pos + 1, rfl, hit2, hbw2, by omega⟩
    · have hnx : ∀ ty, (Instr.next (.pointer (some ⟨w.heap.size, 0, none⟩)) true ty).run Tryz.prog wr = _ := fun ty => Lib.run_next_end_at wr w.heap.size abc pos ty hit hp
      clear hp
      go_wp2_with fail
      go_ret
      exact ⟨rfl, Keeps.of_below hbw fun k hk _ => hk⟩
set_option maxHeartbeats 800000 in
set_option maxRecDepth 1000000 in
theorem validRune_any (r : Nat) (hr : r ≤ 1114111) (w : World) :
    Calls Tryz.prog 143 #[.int .i32 r] w fun e w' => e = .returned (.bool (Utf8.valid r)) ∧ w = w' := by
  have p0 : decide ((0:Int) ≤ (r:Int)) = true := by simp
  have p4 : decide ((r:Int) ≤ 1114111) = true := by rw [decide_eq_true_eq]; omega
  by_cases h1 : r < 55296
  · have hv : Utf8.valid r = true := by simp [Utf8.valid]; omega
    have p1 : decide ((r:Int) < 55296) = true := by rw [decide_eq_true_eq]; omega
    rw [hv]
    clear hv h1 hr
    go_enter Tryz.func143, Tryz.ntmps143
    go_wp2_with fail
    go_ret
    exact ⟨rfl, rfl⟩
  · have p1 : decide ((r:Int) < 55296) = false := by rw [decide_eq_false_iff_not]; omega
    by_cases h2 : 57343 < r
    · have hv : Utf8.valid r = true := by simp [Utf8.valid]; omega
      have p2 : decide ((57343:Int) < (r:Int)) = true := by rw [decide_eq_true_eq]; omega
      rw [hv]
      clear hv h1 h2 hr
      go_enter Tryz.func143, Tryz.ntmps143
      go_wp2_with fail
      go_ret
      exact ⟨rfl, rfl⟩
    · have hv : Utf8.valid r = false := by simp [Utf8.valid]; omega
      have p2 : decide ((57343:Int) < (r:Int)) = false := by rw [decide_eq_false_iff_not]; omega
      rw [hv]
      clear hv h1 h2 hr
      go_enter Tryz.func143, Tryz.ntmps143
      go_wp2_with fail
      go_ret
      exact ⟨rfl, rfl⟩
theorem enc_high (r : Nat) (h : 128 ≤ r) : ∃ (a : List UInt8) (c : UInt8), Utf8.encode r = ⟨(a ++ [c]).toArray⟩ ∧ 128 ≤ c.toNat ∧ 1 ≤ a.length ∧ a.length ≤ 3 := by
  have key : ∀ x : Nat, 128 ≤ (UInt8.ofNat (128 + x % 64)).toNat := fun x => by rw [UInt8.toNat_ofNat']; omega
  unfold Utf8.encode
  have hc : 128 ≤ (if Utf8.valid (r : Int) = true then (r : Int).toNat else Utf8.runeError) := by
    split
    · simpa using h
    · simp [Utf8.runeError]
  obtain ⟨c, hcd⟩ : ∃ c, (if Utf8.valid (r : Int) = true then (r : Int).toNat else Utf8.runeError) = c := ⟨_, rfl⟩
  simp only [hcd] at hc ⊢
  rw [if_neg (by omega)]
  split
  · exact ⟨[_], _, rfl, key _, by simp, by simp⟩
  · split
    · exact ⟨[_, _], _, rfl, key _, by simp, by simp⟩
    · exact ⟨[_, _, _], _, rfl, key _, by simp, by simp⟩
set_option maxHeartbeats 800000 in
set_option maxRecDepth 1000000 in
theorem runeHigh_any (r : Nat) (h : 128 ≤ r) (hr : r ≤ 1114111) (h2 : r ≠ 65533) (w : World) :
    Calls Tryz.prog 119 #[.string abc, .int .i32 r] w fun e w' => e = .returned (.int .i64 (-1)) ∧ Keeps Non w w' := by
  have q1 : decide ((r : Int) < 128) = false := by simp; omega
  have q2 : ((r : Int) == 65533) = false := by rw [beq_eq_false_iff_ne]; omega
  have HV := Lib.hid (fun w => validRune_any r hr w)
  have HE := Lib.hid (enc_high r h)
  clear h hr h2
  have q0 : decide ((0:Int) ≤ (r:Int)) = true := by simp
  go_enter Tryz.func119, Tryz.ntmps119
  go_wp2_with fail
  refine (HV.out _).mono ?_
  rintro e w' ⟨rfl, rfl⟩
  clear HV
  cases hval : Utf8.valid r with
  | false =>
    go_wp2_with fail
    go_ret
    exact ⟨rfl, Keeps.refl _ _⟩
  | true =>
    clear hval
    obtain ⟨a, c, henc, hc, ha1, ha3⟩ := HE.out
    clear HE
    have hbb : ∀ (i : Nat) (hi : i < abc.size), ((((abc[i]'hi).toNat : Int) != (c.toNat : Int)) = true) := fun i hi => by
      have := (decode_abc i hi).2
      rw [bne_iff_ne]
      omega
    have hix : ∀ i, Lib.indexByte (abc.extract i 37).data.toList c = -1 := fun i => indexByte_none _ _ fun b hb e => by
      rw [ext_list] at hb
      have := abc_low b (List.mem_of_mem_drop (List.mem_of_mem_take hb))
      rw [e] at this
      omega
    obtain ⟨rs, hrs⟩ : ∃ rs : ByteArray, rs = ⟨(a ++ [c]).toArray⟩ := ⟨_, rfl⟩
    obtain ⟨n, hn⟩ : ∃ n, a.length = n := ⟨_, rfl⟩
    have hsz : rs.size = n + 1 := by rw [hrs]; show (a ++ [c]).toArray.size = _; simp [hn]
    have hat : ∀ h : n < rs.size, rs[n]'h = c := fun h => by
      subst hrs
      show (a ++ [c]).toArray[n] = c
      simp [← hn]
    rw [← hrs] at henc
    rw [hn] at ha1 ha3
    have hnlt : n < rs.size := by omega
    have hat2 := hat hnlt
    have hn37 : n < 37 := by omega
    have hbn := hbb n hn37
    have hHIX := Lib.hid hix
    clear hix hbb hat hn hrs
    have hcv : Sem.run Tryz.prog (convert 21 9 (.int .i32 r)) w = .ok (.string rs) w := by
      rw [run_convert_int_string w _ _ _ _ (by rw [Tryz.underlying21]; rfl) Tryz.underlying9, henc]
    go_wp2_with fail
    go_step3
    go_wp2_with fail
    go_loopg [9] 1 (fun gk iv wr => iv = .int .i64 n ∧ w = wr)
    case atStart => exact ⟨rfl, rfl⟩
    case round =>
      obtain ⟨rfl, rfl⟩ := hrel
      go_wp2_with fail
      go_step3
      go_upto_region 6 with (fail)
      go_quiet (fail)
      obtain ⟨W, hW⟩ : ∃ W, W = w.drewN nq := ⟨_, rfl⟩
      have hkW : Keeps Non w W := by rw [hW]; exact (Keeps.refl _ _).drewN _
      rw [← hW]
      clear hW
      go_upto_region 7 with (fail)
      have hIB : Hid (∀ (s : ByteArray) (w : World), Calls Tryz.prog 120 #[.string s, .int .u8 c.toNat] w fun e w' => e = .returned (.int .i64 (Lib.indexByte s.data.toList c)) ∧ w' = w) := fun s w => (indexByte_any s c w).mono fun e w' h => ⟨h.1, h.2.symm⟩
      have hwr : IntKind.i64.wrap ((n:Int) + 1) = ((n + 1 : Nat) : Int) := by rw [IntWalk.i64_in _ (by omega)]; rfl
      have hq1 : (0:Int) ≤ (n:Int) + 1 := by omega
      have hq2 : (n:Int) + 1 ≤ 37 := by omega
      have hsl : ∀ w, Sem.run Tryz.prog (Instr.slice 9 (.string abc) (some (.int .i64 ((n:Int) + 1))) none none) w = .ok (.string (abc.extract (n + 1) 37)) w := fun w => by
        have e : ((n:Int) + 1).toNat = n + 1 := by omega
        simp [go_sem, hq1, hq2, e]
      clear hq1 hq2
      have hsi : ∀ w, Sem.run Tryz.prog (Instr.index 9 (.string rs) (.int .i64 (n:Int))) w = .ok (.int .u8 (c.toNat : Int)) w := fun w => by
        simp [go_sem, hsz, hat2]
        intro h; omega
      go_quiet (first | (go_at_call 120; exact Calls.quiet_of_same (hIB.out _ _)))
      have hx := hHIX.out (n + 1)
      rw [hx]
      go_wp2_with fail
      simp only [Exit.inBlock, Exit.then, Exit.noGoto_ret]
      go_ret
      exact ⟨rfl, hkW.drewN _⟩
def letterR (r : Nat) : Bool := decide (r < 128) && letterP (UInt8.ofNat r)
theorem rune_any (r : Nat) (hr : r ≤ 1114111) (w : World) :
    Calls Tryz.prog 119 #[.string abc, .int .i32 r] w fun e w' => (∃ z : Int, e = .returned (.int .i64 z) ∧ decide (0 ≤ z) = letterR r) ∧ Keeps Non w w' := by
  by_cases h : r < 128
  · have hc : (UInt8.ofNat r).toNat = r := by rw [UInt8.toNat_ofNat']; omega
    have := runeLow_any (UInt8.ofNat r) (by omega) w
    rw [hc] at this
    refine this.mono ?_
    rintro e w' ⟨rfl, rfl⟩
    refine ⟨⟨_, rfl, ?_⟩, Keeps.refl _ _⟩
    rw [abc_letter, letterR, decide_eq_true h, Bool.true_and]
  · have hl : letterR r = false := by rw [letterR, decide_eq_false h, Bool.false_and]
    rw [hl]
    by_cases h2 : r = 65533
    · subst h2
      refine (runeErr_any w).mono ?_
      rintro e w' ⟨rfl, hk⟩
      exact ⟨⟨_, rfl, rfl⟩, hk⟩
    · refine (runeHigh_any r (by omega) hr h2 w).mono ?_
      rintro e w' ⟨rfl, hk⟩
      exact ⟨⟨_, rfl, rfl⟩, hk⟩
set_option maxHeartbeats 800000 in
set_option maxRecDepth 100000 in
theorem containsRune_any (r : Nat) (hr : r ≤ 1114111) (w : World) :
    Calls Tryz.prog 89 #[.string abc, .int .i32 r] w fun e w' => e = .returned (.bool (letterR r)) ∧ Keeps Non w w' := by
  have HR := Lib.hid (fun w => rune_any r hr w)
  clear hr
  go_enter Tryz.func89, Tryz.ntmps89
  go_wp2_with fail
  refine (HR.out _).mono ?_
  rintro e w' ⟨⟨z, rfl, hz⟩, hk⟩
  have HZ := Lib.hid hz
  clear hz
  go_wp2_with fail
  go_ret
  exact ⟨bool_ret HZ.out, hk⟩
theorem pathB_split (s : List UInt8) (pos : Nat) (h : pos < s.length) (hn : letterP s[pos] = false) : pathB s = false := by
  have : s.all letterP = false := by
    rw [List.all_eq_false]
    exact ⟨s[pos], List.getElem_mem _, by simp [hn]⟩
  simp [pathB, this]
set_option maxHeartbeats 1600000 in
set_option maxRecDepth 100000 in
theorem path_any (s : ByteArray) (w : World) :
    Calls Tryz.prog 54 #[.string s] w fun e w' => e = .returned (.bool (pathB s.data.toList)) ∧ Keeps Non w w' := by
  go_enter Tryz.func54, Tryz.ntmps54
  go_wp2_with fail
  go_loopg [] s.size (fun g wx => ∃ pos : Nat, g = s.size - pos ∧ pos ≤ s.size ∧ wx.heap[w.heap.size]? = some (.stringIter s pos) ∧ Keeps Non w wx ∧ Hid (∀ b ∈ s.data.toList.take pos, letterP b = true))
  case atStart => exact ⟨0, rfl, Nat.zero_le _, World.iter_heap w s 0, (Keeps.refl _ w).alloc _, by show ∀ b ∈ _, _; simp⟩
  case round =>
    obtain ⟨pos, rfl, hle, hit, hkp, HA⟩ := hrel
    by_cases hp : pos < s.size
    · have hnx : ∀ ty, (Instr.next (.pointer (some ⟨w.heap.size, 0, none⟩)) true ty).run Tryz.prog wr = _ := fun ty => Lib.run_next_any_at wr w.heap.size s pos ty hit hp
      have hit2 := Lib.iterAt_heap wr w.heap.size s pos (pos + (Utf8.decode s pos).2) hit
      have hkp2 : Keeps Non w (wr.iterAt w.heap.size s (pos + (Utf8.decode s pos).2)) := Keeps.of_below (Lib.below_iterAt (hkp.below (Nat.le_refl _) fun _ _ h => h) (Nat.le_refl _) s _) fun k hk _ => hk
      have hr1 := Lib.rune_le s pos
      have hfact : letterR (Utf8.decode s pos).1 = letterP (s[pos]'hp) ∧ (letterP (s[pos]'hp) = true → (Utf8.decode s pos).2 = 1) := by
        by_cases ha : (s[pos]'hp).toNat < 128
        · rw [decode_ascii s pos hp ha]
          refine ⟨?_, fun _ => rfl⟩
          rw [letterR, decide_eq_true ha, Bool.true_and, UInt8.ofNat_toNat]
        · have hh := (decode_high s pos hp (by omega)).1
          have hl : letterP (s[pos]'hp) = false := by
            have h1 : decide ((s[pos]'hp).toNat ≤ 122) = false := decide_eq_false (by omega)
            have h2 : decide ((s[pos]'hp).toNat ≤ 57) = false := decide_eq_false (by omega)
            have h3 : ((s[pos]'hp) == 45) = false := by
              rw [beq_eq_false_iff_ne]
              intro e
              rw [e] at ha
              exact ha (by decide)
            unfold letterP
            rw [h1, h2, h3]
            simp
          rw [hl]
          exact ⟨by rw [letterR, decide_eq_false (by omega), Bool.false_and], fun h => by cases h⟩
      obtain ⟨hf1, hf2⟩ := hfact
      have hel : ∀ h : pos < s.data.toList.length, s.data.toList[pos]'h = s[pos]'hp := fun h => by
        rw [Array.getElem_toList]; rfl
      obtain ⟨R, hR⟩ : ∃ R, (Utf8.decode s pos).1 = R := ⟨_, rfl⟩
      obtain ⟨K, hK⟩ : ∃ K, (Utf8.decode s pos).2 = K := ⟨_, rfl⟩
      obtain ⟨c, hc⟩ : ∃ c, s[pos]'hp = c := ⟨_, rfl⟩
      rw [hK] at hit2 hkp2 hf2
      rw [hR] at hr1 hf1
      rw [hR, hK] at hnx
      rw [hc] at hf1 hf2 hel
      obtain ⟨W1, hW1⟩ : ∃ W1, W1 = wr.iterAt w.heap.size s (pos + K) := ⟨_, rfl⟩
      rw [← hW1] at hnx hit2 hkp2
      clear hW1 hit hkp
      have HC := Lib.hid (containsRune_any R hr1 W1)
      have HR : Hid ((Utf8.decode s pos).1 = R ∧ (Utf8.decode s pos).2 = K ∧ s[pos]'hp = c) := ⟨hR, hK, hc⟩
      have HEL := Lib.hid hel
      clear hR hK hc hel hr1
      have HF1 := Lib.hid hf1
      have HF2 := Lib.hid hf2
      clear hf1 hf2
      go_wp2_with fail
      refine HC.out.mono ?_
      rintro e w2 ⟨rfl, hk2⟩
      have hit3 := (hk2.block w.heap.size (Array.getElem?_eq_some_iff.1 hit2).1 (fun h => h)).trans hit2
      have hkp3 := hkp2.trans hk2 fun _ h => h.elim
      rw [HF1.out]
      cases hl : letterP c with
      | true =>
        have h1 := HF2.out hl
        subst h1
        have HL := Lib.hid hl
        clear hl
        go_wp2_with fail
        go_roundg (s.size - (pos + 1))
        case measure => omega
        case rel =>
          refine ⟨pos + 1, rfl, by omega, hit3, hkp3, ?_⟩
          show ∀ b ∈ _, _
          intro b hb
          rw [List.take_succ_eq_append_getElem (by rw [dlen]; exact hp), List.mem_append, List.mem_singleton] at hb
          rcases hb with hb | rfl
          · exact HA.out b hb
          · rw [HEL.out]; exact HL.out
      | false =>
        have HL := Lib.hid hl
        clear hl
        go_wp2_with fail
        go_ret
        refine ⟨bool_ret ?_, hkp3⟩
        exact (pathB_split _ pos (by rw [dlen]; exact hp) (by rw [HEL.out]; exact HL.out)).symm
    · have hnx : ∀ ty, (Instr.next (.pointer (some ⟨w.heap.size, 0, none⟩)) true ty).run Tryz.prog wr = _ := fun ty => Lib.run_next_end_at wr w.heap.size s pos ty hit hp
      have hall : s.data.toList.all letterP = true := by
        rw [List.all_eq_true]
        intro b hb
        exact HA.out b (by rw [List.take_of_length_le (by rw [dlen]; omega)]; exact hb)
      have hpb : pathB s.data.toList = (!s.data.toList.isEmpty && decide (s.data.toList.length ≤ 12)) := by
        rw [pathB, hall, Bool.true_and]
      have HP := Lib.hid hpb
      clear hall hpb HA hp hle
      by_cases hs : s.data.toList = []
      · have hb2 : s.toList.isEmpty = true := by rw [ByteArray.toList_eq, hs]; rfl
        have HF : Hid (pathB s.data.toList = false) := by show _ = _; rw [HP.out, hs]; rfl
        clear hs HP
        go_wp2_with fail
        go_ret
        exact ⟨bool_ret HF.out.symm, hkp⟩
      · have hb2 : s.toList.isEmpty = false := by rw [ByteArray.toList_eq]; simpa using hs
        have HF : Hid (pathB s.data.toList = decide ((s.size : Int) ≤ 12)) := by
          show _ = _
          rw [HP.out, List.isEmpty_eq_false_iff.2 hs, dlen]
          simp
          omega
        clear hs HP
        go_wp2_with fail
        go_ret
        exact ⟨bool_ret HF.out.symm, hkp⟩
end Go.Proofs.YtdkogijdfgfpeaaGreatDoor

/- The law Packs: the walks. -/
import Derived.Test.YtdkogijdfgfpeaaGreatDoorVTree
import Derived.Test.YtdkogijdfgfpeaaGreatDoorVLib
import Derived.Lib.OthersKept
import Derived.Lib.TrimU
import Derived.Laws.RangeAny
import Derived.Deep.LoopGhost
import Derived.Deep.QuietTactic
import Derived.Deep.DeepCutAuto
import Derived.WalkMore
import Derived.Test.YtdkogijdfgfpeaaGreatDoorVMem
import Derived.Lib.Hide
set_option linter.unusedVariables false
namespace Go.Proofs.YtdkogijdfgfpeaaGreatDoor
open Go Go.RowKit
theorem wrong_len : ∀ (r : List Node) (k : Nat) (st : Opens), wrongGo r k st = -1 → k ≤ 30 → k + r.length ≤ 30
 | [], k, _, _, h => h
 | x :: r, k, st, hw, h => by
   unfold wrongGo at hw
   cases ho : nodeOk k x st with
   | none => rw [ho] at hw; simp only at hw; omega
   | some st' =>
     rw [ho] at hw
     have hk : k ≠ 30 := by
      intro e
      unfold nodeOk at ho
      rw [if_pos (.inl e)] at ho
      cases ho
     have := wrong_len r (k + 1) _ hw (by omega)
     simp only [List.length_cons]
     omega
theorem closeT_le (r : List (List UInt8)) : (closeT r).length ≤ 40 := by
 unfold closeT
 have := putAll_le [[41]]
 simp only [roomOf, List.map_cons, List.sum_cons, List.length_cons, List.length_nil, List.map_nil, List.sum_nil] at this
 rw [List.length_append]
 split
 ·simp; omega
 ·omega
theorem unwind_len (p : List UInt8) : ∀ st : List (List UInt8), (unwind p st).1.length + 40 * (unwind p st).2.length ≤ 40 * st.length
 | [] => by simp [unwind]
 | d :: r => by
   unfold unwind
   split
   ·simp
   ·have := unwind_len p r
    have := closeT_le r
    simp only [List.length_append, List.length_cons]
    omega
theorem unwindAll_len : ∀ st : List (List UInt8), (unwindAll st).length ≤ 40 * st.length
 | [] => by simp [unwindAll]
 | d :: r => by
   have := unwindAll_len r
   have := closeT_le r
   simp only [unwindAll, List.length_append, List.length_cons]
   omega
theorem packGo_len : ∀ (l : List Node) (k : Nat) (st : List (List UInt8)), (packGo l k st).length ≤ (l.map fun x => x.path.length + x.data.length + 400).sum + 40 * st.length
 | [], _, st => by simpa [packGo] using unwindAll_len st
 | x :: r, k, st => by
   have h1 := unwind_len x.path st
   have h2 := packGo_len r (k + 1) (x.path :: (unwind x.path st).2)
   have h3 := packGo_len r (k + 1) (unwind x.path st).2
   have hh : (headT k x.path).length ≤ x.path.length + 120 := by
    unfold headT
    split
    ·simp
    ·refine Nat.le_trans (putAll_le _) ?_
     have := baseL_le x.path
     simp only [roomOf, List.map_cons, List.sum_cons, List.length_cons, List.length_nil, List.map_nil, List.sum_nil]
     omega
   have ht : typeT.length ≤ 50 := by
    refine Nat.le_trans (putAll_le _) ?_
    simp [roomOf]
   have hd : (putAll [[100, 105, 114]]).length ≤ 30 := by
    refine Nat.le_trans (putAll_le _) ?_
    simp [roomOf]
   have hl : (leafT x.kind x.data).length ≤ x.data.length + 130 := by
    unfold leafT
    split
    ·refine Nat.le_trans (putAll_le _) ?_
     simp only [roomOf, List.map_cons, List.sum_cons, List.length_cons, List.length_nil, List.map_nil, List.sum_nil]
     omega
    ·split
     ·refine Nat.le_trans (putAll_le _) ?_
      simp only [roomOf, List.map_cons, List.sum_cons, List.length_cons, List.length_nil, List.map_nil, List.sum_nil]
      omega
     ·refine Nat.le_trans (putAll_le _) ?_
      simp only [roomOf, List.map_cons, List.sum_cons, List.length_cons, List.length_nil, List.map_nil, List.sum_nil]
      omega
   have htl : (tailT k).length ≤ 20 := by
    unfold tailT
    split
    ·simp
    ·refine Nat.le_trans (putAll_le _) ?_
     simp [roomOf]
   simp only [packGo, List.length_append, List.map_cons, List.sum_cons]
   simp only [List.length_cons] at h2
   split
   ·simp only [List.length_append]; omega
   ·simp only [List.length_append]; omega
theorem sum_add (l : List Node) (c : Nat) : (l.map fun x => x.path.length + x.data.length + c).sum = (l.map fun x => x.path.length + x.data.length).sum + c * l.length := by
 induction l with
 | nil => simp
 | cons x r ih => simp only [List.map_cons, List.sum_cons, ih, List.length_cons, Nat.mul_add]; omega
theorem packP_len (l : List Node) : (packP l).length ≤ (l.map fun x => x.path.length + x.data.length).sum + 400 * l.length + 40 := by
 unfold packP
 have h1 := packGo_len l 0 []
 have h2 : (putAll [[110, 97, 114, 45, 49]]).length ≤ 40 := by
  refine Nat.le_trans (putAll_le _) ?_
  simp [roomOf]
 rw [sum_add] at h1
 simp only [List.length_append, List.length_nil] at h1 ⊢
 omega
theorem wrongGo_range : ∀ (r : List Node) (k : Nat) (st : Opens), wrongGo r k st = -1 ∨ (k : Int) ≤ wrongGo r k st ∧ wrongGo r k st < k + r.length
 | [], _, _ => .inl rfl
 | x :: r, k, st => by
   unfold wrongGo
   cases nodeOk k x st with
   | none => right; simp only [List.length_cons]; omega
   | some st' =>
     simp only [List.length_cons]
     rcases wrongGo_range r (k + 1) (pushD x st') with h | ⟨h1, h2⟩
     ·exact .inl h
     ·right; omega
theorem wrong_range (l : List Node) : wrongL l = -1 ∨ 0 ≤ wrongL l := by
 unfold wrongL
 split
 ·right; omega
 ·rcases wrongGo_range l 0 [] with h | h
  ·exact .inl h
  ·right; omega
set_option maxHeartbeats 800000 in
set_option maxRecDepth 100000 in
theorem npack_good (v : Value) (l : List Node) (w : World) (hv : Rd w 3 v l.length (nodeCells l)) (hT : Tabs w) (hfit : NodesSmall l) (h : wrongL l = -1) (hlen : (packP l).length ≤ 70368744177664) :
 Calls Tryz.prog 27 #[v] w fun e w' => e = .returned (.tuple #[.string ⟨(packP l).toArray⟩, .int .i64 0, .int .i64 0]) ∧ Keeps Non w w' := by
 have hl30 : l.length ≤ 1000 := by
  unfold wrongL at h
  split at h
  ·omega
  ·have := wrong_len l 0 [] h (by omega); omega
 have HV := Lib.hid hv
 have HT := Lib.hid hT
 have HFIT := Lib.hid hfit
 have HW := Lib.hid h
 have HL := Lib.hid hlen
 clear hv hT hfit h hlen
 go_enter Tryz.func27, Tryz.ntmps27
 go_wp2_with fail
 refine (wrong_any v l _ HV.out HT.out (fun n hn => by have := HFIT.out n hn; omega)).mono ?_
 rintro e w1 ⟨rfl, hk1⟩
 have HK1 := Lib.hid hk1
 clear hk1
 rw [HW.out]
 go_wp2_with fail
 refine (pack_any v l _ (HV.out.non HK1.out) hl30 HFIT.out HL.out).mono ?_
 rintro e w2 ⟨rfl, hk2⟩
 have HK2 := Lib.hid (HK1.out.trans hk2 (fun k hk => .inl hk))
 clear hk2
 go_wp2_with fail
 go_ret3
 exact ⟨rfl, HK2.out⟩
def letterP (c : UInt8) : Bool := (decide (97 ≤ c.toNat) && decide (c.toNat ≤ 122)) || (decide (48 ≤ c.toNat) && decide (c.toNat ≤ 57)) || c == 45
def pathB (s : List UInt8) : Bool := s.all letterP && !s.isEmpty && decide (s.length ≤ 12)
abbrev abc : ByteArray := ⟨#[97, 98, 99, 100, 101, 102, 103, 104, 105, 106, 107, 108, 109, 110, 111, 112, 113, 114, 115, 116, 117, 118, 119, 120, 121, 122, 48, 49, 50, 51, 52, 53, 54, 55, 56, 57, 45]⟩
theorem abc_low : ∀ b ∈ abc.data.toList, b.toNat < 128 := by decide
theorem indexByte_none : ∀ (l : List UInt8) (c : UInt8), (∀ b ∈ l, b ≠ c) → Lib.indexByte l c = -1
 | [], _, _ => rfl
 | b :: l, c, h => by
   have hb : (b == c) = false := by simpa using h b (List.mem_cons_self ..)
   rw [Lib.indexByte, hb, indexByte_none l c fun x hx => h x (List.mem_cons_of_mem _ hx)]
   rfl
set_option maxRecDepth 1000000 in
theorem abc_letter (c : UInt8) : decide (0 ≤ Lib.indexByte abc.data.toList c) = letterP c := by
 have h : ∀ n : Fin 256, decide (0 ≤ Lib.indexByte abc.data.toList (UInt8.ofNat n.val)) = letterP (UInt8.ofNat n.val) := by decide
 have := h ⟨c.toNat, c.toNat_lt⟩
 rw [UInt8.ofNat_toNat] at this
 exact this
set_option maxHeartbeats 800000 in
set_option maxRecDepth 1000000 in
theorem runeLow_any (c : UInt8) (h : c.toNat < 128) (w : World) :
 Calls Tryz.prog 119 #[.string abc, .int .i32 c.toNat] w fun e w' => e = .returned (.int .i64 (Lib.indexByte abc.data.toList c)) ∧ w = w' := by
 go_enter Tryz.func119, Tryz.ntmps119
 go_wp2_with fail
 refine (indexByte_any _ _ _).mono ?_
 rintro e w' ⟨rfl, rfl⟩
 go_wp2_with fail
 go_ret
 exact ⟨rfl, rfl⟩
theorem decode_abc (pos : Nat) (h : pos < abc.size) : Utf8.decode abc pos = ((abc[pos]'h).toNat, 1) ∧ (abc[pos]'h).toNat < 128 := by
 have hl : (abc[pos]'h).toNat < 128 := abc_low _ (by
  show abc.data[pos] ∈ _
  rw [← Array.getElem_toList]
  exact List.getElem_mem _)
 exact ⟨decode_ascii abc pos h hl, hl⟩
set_option maxHeartbeats 800000 in
set_option maxRecDepth 1000000 in
theorem runeErr_any (w : World) :
 Calls Tryz.prog 119 #[.string abc, .int .i32 65533] w fun e w' => e = .returned (.int .i64 (-1)) ∧ Keeps Non w w' := by
 go_enter Tryz.func119, Tryz.ntmps119
 go_wp2_with fail
 go_loopg [] 37 (fun g wx => ∃ pos : Nat, g = 37 - pos ∧ wx.heap[w.heap.size]? = some (.stringIter abc pos) ∧ Below w.heap.size w wx ∧ pos ≤ 37)
 case atStart => exact ⟨0, rfl, World.iter_heap w abc 0, (Below.refl _ w).alloc (Nat.le_refl _) _, by omega⟩
 case round =>
  obtain ⟨pos, rfl, hit, hbw, hle⟩ := hrel
  by_cases hp : pos < abc.size
  ·have hnx : ∀ ty, (Instr.next (.pointer (some ⟨w.heap.size, 0, none⟩)) true ty).run Tryz.prog wr = _ := fun ty => Lib.run_next_any_at wr w.heap.size abc pos ty hit hp
   obtain ⟨h1, h2⟩ := decode_abc pos hp
   obtain ⟨R, hR⟩ : ∃ R, (abc[pos]'hp).toNat = R := ⟨_, rfl⟩
   rw [h1, hR] at hnx
   rw [hR] at h2
   have hit2 := Lib.iterAt_heap wr w.heap.size abc pos (pos + 1) hit
   have hbw2 := Lib.below_iterAt hbw (k := w.heap.size) (Nat.le_refl _) abc (pos + 1)
   simp only at hnx
   have h3 : pos < 37 := hp
   have hne : ((R : Int) == 65533) = false := by rw [beq_eq_false_iff_ne]; omega
   clear h1 hR hp
   go_wp2_with fail
   go_roundg (37 - (pos + 1))
   case measure => omega
   case rel => exact ⟨pos + 1, rfl, hit2, hbw2, by omega⟩
  ·have hnx : ∀ ty, (Instr.next (.pointer (some ⟨w.heap.size, 0, none⟩)) true ty).run Tryz.prog wr = _ := fun ty => Lib.run_next_end_at wr w.heap.size abc pos ty hit hp
   clear hp
   go_wp2_with fail
   go_ret
   exact ⟨rfl, Keeps.of_below hbw fun k hk _ => hk⟩
set_option maxHeartbeats 800000 in
set_option maxRecDepth 1000000 in
theorem validRune_any (r : Nat) (hr : r ≤ 1114111) (w : World) :
 Calls Tryz.prog 143 #[.int .i32 r] w fun e w' => e = .returned (.bool (Utf8.valid r)) ∧ w = w' := by
 have p0 : decide ((0:Int) ≤ (r:Int)) = true := by simp
 have p4 : decide ((r:Int) ≤ 1114111) = true := by rw [decide_eq_true_eq]; omega
 by_cases h1 : r < 55296
 ·have hv : Utf8.valid r = true := by simp [Utf8.valid]; omega
  have p1 : decide ((r:Int) < 55296) = true := by rw [decide_eq_true_eq]; omega
  rw [hv]
  clear hv h1 hr
  go_enter Tryz.func143, Tryz.ntmps143
  go_wp2_with fail
  go_ret
  exact ⟨rfl, rfl⟩
 ·have p1 : decide ((r:Int) < 55296) = false := by rw [decide_eq_false_iff_not]; omega
  by_cases h2 : 57343 < r
  ·have hv : Utf8.valid r = true := by simp [Utf8.valid]; omega
   have p2 : decide ((57343:Int) < (r:Int)) = true := by rw [decide_eq_true_eq]; omega
   rw [hv]
   clear hv h1 h2 hr
   go_enter Tryz.func143, Tryz.ntmps143
   go_wp2_with fail
   go_ret
   exact ⟨rfl, rfl⟩
  ·have hv : Utf8.valid r = false := by simp [Utf8.valid]; omega
   have p2 : decide ((57343:Int) < (r:Int)) = false := by rw [decide_eq_false_iff_not]; omega
   rw [hv]
   clear hv h1 h2 hr
   go_enter Tryz.func143, Tryz.ntmps143
   go_wp2_with fail
   go_ret
   exact ⟨rfl, rfl⟩
theorem enc_high (r : Nat) (h : 128 ≤ r) : ∃ (a : List UInt8) (c : UInt8), Utf8.encode r = ⟨(a ++ [c]).toArray⟩ ∧ 128 ≤ c.toNat ∧ 1 ≤ a.length ∧ a.length ≤ 3 := by
 have key : ∀ x : Nat, 128 ≤ (UInt8.ofNat (128 + x % 64)).toNat := fun x => by rw [UInt8.toNat_ofNat']; omega
 unfold Utf8.encode
 have hc : 128 ≤ (if Utf8.valid (r : Int) = true then (r : Int).toNat else Utf8.runeError) := by
  split
  ·simpa using h
  ·simp [Utf8.runeError]
 obtain ⟨c, hcd⟩ : ∃ c, (if Utf8.valid (r : Int) = true then (r : Int).toNat else Utf8.runeError) = c := ⟨_, rfl⟩
 simp only [hcd] at hc ⊢
 rw [if_neg (by omega)]
 split
 ·exact ⟨[_], _, rfl, key _, by simp, by simp⟩
 ·split
  ·exact ⟨[_, _], _, rfl, key _, by simp, by simp⟩
  ·exact ⟨[_, _, _], _, rfl, key _, by simp, by simp⟩
set_option maxHeartbeats 800000 in
set_option maxRecDepth 1000000 in
theorem runeHigh_any (r : Nat) (h : 128 ≤ r) (hr : r ≤ 1114111) (h2 : r ≠ 65533) (w : World) :
 Calls Tryz.prog 119 #[.string abc, .int .i32 r] w fun e w' => e = .returned (.int .i64 (-1)) ∧ Keeps Non w w' := by
 have q1 : decide ((r : Int) < 128) = false := by simp; omega
 have q2 : ((r : Int) == 65533) = false := by rw [beq_eq_false_iff_ne]; omega
 have HV := Lib.hid (fun w => validRune_any r hr w)
 have HE := Lib.hid (enc_high r h)
 clear h hr h2
 have q0 : decide ((0:Int) ≤ (r:Int)) = true := by simp
 go_enter Tryz.func119, Tryz.ntmps119
 go_wp2_with fail
 refine (HV.out _).mono ?_
 rintro e w' ⟨rfl, rfl⟩
 clear HV
 cases hval : Utf8.valid r with
 | false =>
   go_wp2_with fail
   go_ret
   exact ⟨rfl, Keeps.refl _ _⟩
 | true =>
   clear hval
   obtain ⟨a, c, henc, hc, ha1, ha3⟩ := HE.out
   clear HE
   have hbb : ∀ (i : Nat) (hi : i < abc.size), ((((abc[i]'hi).toNat : Int) != (c.toNat : Int)) = true) := fun i hi => by
    have := (decode_abc i hi).2
    rw [bne_iff_ne]
    omega
   have hix : ∀ i, Lib.indexByte (abc.extract i 37).data.toList c = -1 := fun i => indexByte_none _ _ fun b hb e => by
    rw [ext_list] at hb
    have := abc_low b (List.mem_of_mem_drop (List.mem_of_mem_take hb))
    rw [e] at this
    omega
   obtain ⟨rs, hrs⟩ : ∃ rs : ByteArray, rs = ⟨(a ++ [c]).toArray⟩ := ⟨_, rfl⟩
   obtain ⟨n, hn⟩ : ∃ n, a.length = n := ⟨_, rfl⟩
   have hsz : rs.size = n + 1 := by rw [hrs]; show (a ++ [c]).toArray.size = _; simp [hn]
   have hat : ∀ h : n < rs.size, rs[n]'h = c := fun h => by
    subst hrs
    show (a ++ [c]).toArray[n] = c
    simp [← hn]
   rw [← hrs] at henc
   rw [hn] at ha1 ha3
   have hnlt : n < rs.size := by omega
   have hat2 := hat hnlt
   have hn37 : n < 37 := by omega
   have hbn := hbb n hn37
   have hHIX := Lib.hid hix
   clear hix hbb hat hn hrs
   have hcv : Sem.run Tryz.prog (convert 21 9 (.int .i32 r)) w = .ok (.string rs) w := by
    rw [run_convert_int_string w _ _ _ _ (by rw [Tryz.underlying21]; rfl) Tryz.underlying9, henc]
   go_wp2_with fail
   go_step3
   go_wp2_with fail
   go_loopg [9] 1 (fun gk iv wr => iv = .int .i64 n ∧ w = wr)
   case atStart => exact ⟨rfl, rfl⟩
   case round =>
    obtain ⟨rfl, rfl⟩ := hrel
    go_wp2_with fail
    go_step3
    go_upto_region 6 with (fail)
    go_quiet (fail)
    obtain ⟨W, hW⟩ : ∃ W, W = w.drewN nq := ⟨_, rfl⟩
    have hkW : Keeps Non w W := by rw [hW]; exact (Keeps.refl _ _).drewN _
    rw [← hW]
    clear hW
    go_upto_region 7 with (fail)
    have hIB : Hid (∀ (s : ByteArray) (w : World), Calls Tryz.prog 120 #[.string s, .int .u8 c.toNat] w fun e w' => e = .returned (.int .i64 (Lib.indexByte s.data.toList c)) ∧ w' = w) := fun s w => (indexByte_any s c w).mono fun e w' h => ⟨h.1, h.2.symm⟩
    have hwr : IntKind.i64.wrap ((n:Int) + 1) = ((n + 1 : Nat) : Int) := by rw [IntWalk.i64_in _ (by omega)]; rfl
    have hq1 : (0:Int) ≤ (n:Int) + 1 := by omega
    have hq2 : (n:Int) + 1 ≤ 37 := by omega
    have hsl : ∀ w, Sem.run Tryz.prog (Instr.slice 9 (.string abc) (some (.int .i64 ((n:Int) + 1))) none none) w = .ok (.string (abc.extract (n + 1) 37)) w := fun w => by
     have e : ((n:Int) + 1).toNat = n + 1 := by omega
     simp [go_sem, hq1, hq2, e]
    clear hq1 hq2
    have hsi : ∀ w, Sem.run Tryz.prog (Instr.index 9 (.string rs) (.int .i64 (n:Int))) w = .ok (.int .u8 (c.toNat : Int)) w := fun w => by
     simp [go_sem, hsz, hat2]
     intro h; omega
    go_quiet (first | (go_at_call 120; exact Calls.quiet_of_same (hIB.out _ _)))
    have hx := hHIX.out (n + 1)
    rw [hx]
    go_wp2_with fail
    simp only [Exit.inBlock, Exit.then, Exit.noGoto_ret]
    go_ret
    exact ⟨rfl, hkW.drewN _⟩
def letterR (r : Nat) : Bool := decide (r < 128) && letterP (UInt8.ofNat r)
theorem rune_any (r : Nat) (hr : r ≤ 1114111) (w : World) :
 Calls Tryz.prog 119 #[.string abc, .int .i32 r] w fun e w' => (∃ z : Int, e = .returned (.int .i64 z) ∧ decide (0 ≤ z) = letterR r) ∧ Keeps Non w w' := by
 by_cases h : r < 128
 ·have hc : (UInt8.ofNat r).toNat = r := by rw [UInt8.toNat_ofNat']; omega
  have := runeLow_any (UInt8.ofNat r) (by omega) w
  rw [hc] at this
  refine this.mono ?_
  rintro e w' ⟨rfl, rfl⟩
  refine ⟨⟨_, rfl, ?_⟩, Keeps.refl _ _⟩
  rw [abc_letter, letterR, decide_eq_true h, Bool.true_and]
 ·have hl : letterR r = false := by rw [letterR, decide_eq_false h, Bool.false_and]
  rw [hl]
  by_cases h2 : r = 65533
  ·subst h2
   refine (runeErr_any w).mono ?_
   rintro e w' ⟨rfl, hk⟩
   exact ⟨⟨_, rfl, rfl⟩, hk⟩
  ·refine (runeHigh_any r (by omega) hr h2 w).mono ?_
   rintro e w' ⟨rfl, hk⟩
   exact ⟨⟨_, rfl, rfl⟩, hk⟩
set_option maxHeartbeats 800000 in
set_option maxRecDepth 100000 in
theorem containsRune_any (r : Nat) (hr : r ≤ 1114111) (w : World) :
 Calls Tryz.prog 89 #[.string abc, .int .i32 r] w fun e w' => e = .returned (.bool (letterR r)) ∧ Keeps Non w w' := by
 have HR := Lib.hid (fun w => rune_any r hr w)
 clear hr
 go_enter Tryz.func89, Tryz.ntmps89
 go_wp2_with fail
 refine (HR.out _).mono ?_
 rintro e w' ⟨⟨z, rfl, hz⟩, hk⟩
 have HZ := Lib.hid hz
 clear hz
 go_wp2_with fail
 go_ret
 exact ⟨bool_ret HZ.out, hk⟩
theorem pathB_split (s : List UInt8) (pos : Nat) (h : pos < s.length) (hn : letterP s[pos] = false) : pathB s = false := by
 have : s.all letterP = false := by
  rw [List.all_eq_false]
  exact ⟨s[pos], List.getElem_mem _, by simp [hn]⟩
 simp [pathB, this]
set_option maxHeartbeats 1600000 in
set_option maxRecDepth 100000 in
theorem path_any (s : ByteArray) (w : World) :
 Calls Tryz.prog 54 #[.string s] w fun e w' => e = .returned (.bool (pathB s.data.toList)) ∧ Keeps Non w w' := by
 go_enter Tryz.func54, Tryz.ntmps54
 go_wp2_with fail
 go_loopg [] s.size (fun g wx => ∃ pos : Nat, g = s.size - pos ∧ pos ≤ s.size ∧ wx.heap[w.heap.size]? = some (.stringIter s pos) ∧ Keeps Non w wx ∧ Hid (∀ b ∈ s.data.toList.take pos, letterP b = true))
 case atStart => exact ⟨0, rfl, Nat.zero_le _, World.iter_heap w s 0, (Keeps.refl _ w).alloc _, by show ∀ b ∈ _, _; simp⟩
 case round =>
  obtain ⟨pos, rfl, hle, hit, hkp, HA⟩ := hrel
  by_cases hp : pos < s.size
  ·have hnx : ∀ ty, (Instr.next (.pointer (some ⟨w.heap.size, 0, none⟩)) true ty).run Tryz.prog wr = _ := fun ty => Lib.run_next_any_at wr w.heap.size s pos ty hit hp
   have hit2 := Lib.iterAt_heap wr w.heap.size s pos (pos + (Utf8.decode s pos).2) hit
   have hkp2 : Keeps Non w (wr.iterAt w.heap.size s (pos + (Utf8.decode s pos).2)) := Keeps.of_below (Lib.below_iterAt (hkp.below (Nat.le_refl _) fun _ _ h => h) (Nat.le_refl _) s _) fun k hk _ => hk
   have hr1 := Lib.rune_le s pos
   have hfact : letterR (Utf8.decode s pos).1 = letterP (s[pos]'hp) ∧ (letterP (s[pos]'hp) = true → (Utf8.decode s pos).2 = 1) := by
    by_cases ha : (s[pos]'hp).toNat < 128
    ·rw [decode_ascii s pos hp ha]
     refine ⟨?_, fun _ => rfl⟩
     rw [letterR, decide_eq_true ha, Bool.true_and, UInt8.ofNat_toNat]
    ·have hh := (decode_high s pos hp (by omega)).1
     have hl : letterP (s[pos]'hp) = false := by
      have h1 : decide ((s[pos]'hp).toNat ≤ 122) = false := decide_eq_false (by omega)
      have h2 : decide ((s[pos]'hp).toNat ≤ 57) = false := decide_eq_false (by omega)
      have h3 : ((s[pos]'hp) == 45) = false := by
       rw [beq_eq_false_iff_ne]
       intro e
       rw [e] at ha
       exact ha (by decide)
      unfold letterP
      rw [h1, h2, h3]
      simp
     rw [hl]
     exact ⟨by rw [letterR, decide_eq_false (by omega), Bool.false_and], fun h => by cases h⟩
   obtain ⟨hf1, hf2⟩ := hfact
   have hel : ∀ h : pos < s.data.toList.length, s.data.toList[pos]'h = s[pos]'hp := fun h => by
    rw [Array.getElem_toList]; rfl
   obtain ⟨R, hR⟩ : ∃ R, (Utf8.decode s pos).1 = R := ⟨_, rfl⟩
   obtain ⟨K, hK⟩ : ∃ K, (Utf8.decode s pos).2 = K := ⟨_, rfl⟩
   obtain ⟨c, hc⟩ : ∃ c, s[pos]'hp = c := ⟨_, rfl⟩
   rw [hK] at hit2 hkp2 hf2
   rw [hR] at hr1 hf1
   rw [hR, hK] at hnx
   rw [hc] at hf1 hf2 hel
   obtain ⟨W1, hW1⟩ : ∃ W1, W1 = wr.iterAt w.heap.size s (pos + K) := ⟨_, rfl⟩
   rw [← hW1] at hnx hit2 hkp2
   clear hW1 hit hkp
   have HC := Lib.hid (containsRune_any R hr1 W1)
   have HR : Hid ((Utf8.decode s pos).1 = R ∧ (Utf8.decode s pos).2 = K ∧ s[pos]'hp = c) := ⟨hR, hK, hc⟩
   have HEL := Lib.hid hel
   clear hR hK hc hel hr1
   have HF1 := Lib.hid hf1
   have HF2 := Lib.hid hf2
   clear hf1 hf2
   go_wp2_with fail
   refine HC.out.mono ?_
   rintro e w2 ⟨rfl, hk2⟩
   have hit3 := (hk2.block w.heap.size (Array.getElem?_eq_some_iff.1 hit2).1 (fun h => h)).trans hit2
   have hkp3 := hkp2.trans hk2 fun _ h => h.elim
   rw [HF1.out]
   cases hl : letterP c with
   | true =>
     have h1 := HF2.out hl
     subst h1
     have HL := Lib.hid hl
     clear hl
     go_wp2_with fail
     go_roundg (s.size - (pos + 1))
     case measure => omega
     case rel =>
      refine ⟨pos + 1, rfl, by omega, hit3, hkp3, ?_⟩
      show ∀ b ∈ _, _
      intro b hb
      rw [List.take_succ_eq_append_getElem (by rw [dlen]; exact hp), List.mem_append, List.mem_singleton] at hb
      rcases hb with hb | rfl
      ·exact HA.out b hb
      ·rw [HEL.out]; exact HL.out
   | false =>
     have HL := Lib.hid hl
     clear hl
     go_wp2_with fail
     go_ret
     refine ⟨bool_ret ?_, hkp3⟩
     exact (pathB_split _ pos (by rw [dlen]; exact hp) (by rw [HEL.out]; exact HL.out)).symm
  ·have hnx : ∀ ty, (Instr.next (.pointer (some ⟨w.heap.size, 0, none⟩)) true ty).run Tryz.prog wr = _ := fun ty => Lib.run_next_end_at wr w.heap.size s pos ty hit hp
   have hall : s.data.toList.all letterP = true := by
    rw [List.all_eq_true]
    intro b hb
    exact HA.out b (by rw [List.take_of_length_le (by rw [dlen]; omega)]; exact hb)
   have hpb : pathB s.data.toList = (!s.data.toList.isEmpty && decide (s.data.toList.length ≤ 12)) := by
    rw [pathB, hall, Bool.true_and]
   have HP := Lib.hid hpb
   clear hall hpb HA hp hle
   by_cases hs : s.data.toList = []
   ·have hb2 : s.toList.isEmpty = true := by rw [ByteArray.toList_eq, hs]; rfl
    have HF : Hid (pathB s.data.toList = false) := by show _ = _; rw [HP.out, hs]; rfl
    clear hs HP
    go_wp2_with fail
    go_ret
    exact ⟨bool_ret HF.out.symm, hkp⟩
   ·have hb2 : s.toList.isEmpty = false := by rw [ByteArray.toList_eq]; simpa using hs
    have HF : Hid (pathB s.data.toList = decide ((s.size : Int) ≤ 12)) := by
     show _ = _
     rw [HP.out, List.isEmpty_eq_false_iff.2 hs, dlen]
     simp
     omega
    clear hs HP
    go_wp2_with fail
    go_ret
    exact ⟨bool_ret HF.out.symm, hkp⟩
structure Ent where
 path : List UInt8
 tree : List Node
 refs : List (List UInt8)
abbrev Ents := List Ent
def findE (L : Ents) (k : List UInt8) : Option Ent := L.find? fun e => e.path == k
def risingB : List (List UInt8) → Bool
 | a :: b :: r => Op.bytesLess a b && risingB (b :: r)
 | _ => true
def putE (L : Ents) (e : Ent) : Ents := L.takeWhile (fun x => Op.bytesLess x.path e.path) ++ e :: L.dropWhile (fun x => Op.bytesLess x.path e.path)
def sameE (a b : Ent) : Bool := packP a.tree == packP b.tree && a.refs == b.refs
def insE (L : Ents) (name : List UInt8) (l : List Node) (refs : List (List UInt8)) : Int × Ents :=
 if pathB name = false then (11, L)
 else if 0 ≤ wrongL l then (1, L)
 else if risingB refs = false then (7, L)
 else if refs.any (fun r => r != name && (findE L r).isNone) = true then (13, L)
 else match findE L name with
  | some e => if sameE e ⟨name, l, refs⟩ then (0, L) else (12, L)
  | none => if L.length = 10 then (14, L) else (0, putE L ⟨name, l, refs⟩)
structure StoreOk (L : Ents) : Prop where
 rise : L.Pairwise fun a b => Op.bytesLess a.path b.path = true
 ten : L.length ≤ 10
 good : ∀ e ∈ L, pathB e.path = true ∧ wrongL e.tree = -1 ∧ risingB e.refs = true
 has : ∀ e ∈ L, ∀ r ∈ e.refs, (findE L r).isSome = true
theorem bytesLess_trans {a b c : List UInt8} (h1 : Op.bytesLess a b = true) (h2 : Op.bytesLess b c = true) : Op.bytesLess a c = true := by
 rw [bytesLess_lt, decide_eq_true_eq] at *
 exact List.lt_trans h1 h2
theorem bytesLess_irrefl (a : List UInt8) : Op.bytesLess a a = false := by
 rw [bytesLess_lt, decide_eq_false_iff_not]
 exact List.lt_irrefl a
theorem bytesLess_total {a b : List UInt8} (h1 : Op.bytesLess a b = false) (h2 : a ≠ b) : Op.bytesLess b a = true := by
 have h := leS_not b a
 rw [h1, leS] at h
 simp only [Bool.not_false, Bool.or_eq_true, beq_iff_eq] at h
 exact h.resolve_right fun e => h2 e.symm
theorem findE_some {L : Ents} {k : List UInt8} {e : Ent} (h : findE L k = some e) : e ∈ L ∧ e.path = k := by
 unfold findE at h
 exact ⟨List.mem_of_find?_eq_some h, by simpa using List.find?_some h⟩
theorem findE_none {L : Ents} {k : List UInt8} : findE L k = none ↔ ∀ e ∈ L, e.path ≠ k := by
 unfold findE
 rw [List.find?_eq_none]
 simp
theorem findE_isSome {L : Ents} {k : List UInt8} : (findE L k).isSome = true ↔ ∃ e ∈ L, e.path = k := by
 unfold findE
 rw [List.find?_isSome]
 simp
theorem putE_mem {L : Ents} {e x : Ent} : x ∈ putE L e ↔ x = e ∨ x ∈ L := by
 unfold putE
 rw [List.mem_append, List.mem_cons]
 have h := List.takeWhile_append_dropWhile (p := fun x : Ent => Op.bytesLess x.path e.path) (l := L)
 constructor
 ·rintro (h1 | h1 | h1)
  ·exact .inr (by rw [← h]; exact List.mem_append.2 (.inl h1))
  ·exact .inl h1
  ·exact .inr (by rw [← h]; exact List.mem_append.2 (.inr h1))
 ·rintro (h1 | h1)
  ·exact .inr (.inl h1)
  ·rw [← h] at h1
   rcases List.mem_append.1 h1 with h1 | h1
   ·exact .inl h1
   ·exact .inr (.inr h1)
theorem putE_length (L : Ents) (e : Ent) : (putE L e).length = L.length + 1 := by
 unfold putE
 have h := congrArg List.length (List.takeWhile_append_dropWhile (p := fun x : Ent => Op.bytesLess x.path e.path) (l := L))
 rw [List.length_append] at h ⊢
 rw [List.length_cons]
 omega
theorem dw_ge {L : Ents} {e : Ent} (hr : L.Pairwise fun a b => Op.bytesLess a.path b.path = true) (hn : findE L e.path = none) : ∀ x ∈ L.dropWhile (fun x => Op.bytesLess x.path e.path), Op.bytesLess e.path x.path = true := by
 induction L with
 | nil => intro x hx; cases hx
 | cons y r ih =>
   obtain ⟨h1, h2⟩ := List.pairwise_cons.1 hr
   have hn2 : findE r e.path = none := findE_none.2 fun x hx => findE_none.1 hn x (List.mem_cons_of_mem _ hx)
   intro x hx
   cases hy : Op.bytesLess y.path e.path with
   | true =>
     rw [List.dropWhile_cons_of_pos (by simp [hy])] at hx
     exact ih h2 hn2 x hx
   | false =>
     rw [List.dropWhile_cons_of_neg (by simp [hy])] at hx
     have hye : Op.bytesLess e.path y.path = true := bytesLess_total hy (findE_none.1 hn y (List.mem_cons_self ..))
     rcases List.mem_cons.1 hx with rfl | hx
     ·exact hye
     ·exact bytesLess_trans hye (h1 x hx)
theorem putE_rise {L : Ents} {e : Ent} (hr : L.Pairwise fun a b => Op.bytesLess a.path b.path = true) (hn : findE L e.path = none) : (putE L e).Pairwise fun a b => Op.bytesLess a.path b.path = true := by
 have hs := List.takeWhile_append_dropWhile (p := fun x : Ent => Op.bytesLess x.path e.path) (l := L)
 have hr2 := hr
 rw [← hs] at hr2
 obtain ⟨h1, h2, h3⟩ := List.pairwise_append.1 hr2
 have hge := dw_ge hr hn
 have hlt : ∀ x ∈ L.takeWhile (fun x => Op.bytesLess x.path e.path), Op.bytesLess x.path e.path = true := fun x hx => by
  have := List.all_takeWhile (p := fun x : Ent => Op.bytesLess x.path e.path) (l := L)
  exact List.all_eq_true.1 this x hx
 unfold putE
 refine List.pairwise_append.2 ⟨h1, List.pairwise_cons.2 ⟨hge, h2⟩, fun a ha b hb => ?_⟩
 rcases List.mem_cons.1 hb with rfl | hb
 ·exact hlt a ha
 ·exact h3 a ha b hb
theorem insE_ok {L : Ents} (h : StoreOk L) (name : List UInt8) (l : List Node) (refs : List (List UInt8)) : StoreOk (insE L name l refs).2 := by
 unfold insE
 split
 ·exact h
 split
 ·exact h
 split
 ·exact h
 split
 ·exact h
 rename_i h1 h2 h3 h4
 cases hf : findE L name with
 | some e =>
   simp only
   split <;> exact h
 | none =>
   simp only
   split
   ·exact h
   ·rename_i h10
    have hw : wrongL l = -1 := by
     rcases wrong_range l with e | e
     ·exact e
     ·exact absurd e h2
    refine ⟨putE_rise h.rise hf, by rw [putE_length]; have := h.ten; omega, fun e he => ?_, fun e he r hr => ?_⟩
    ·rcases putE_mem.1 he with rfl | he
     ·exact ⟨by simpa using h1, hw, by simpa using h3⟩
     ·exact h.good e he
    ·rw [findE_isSome]
     rcases putE_mem.1 he with rfl | he
     ·by_cases hrn : r = name
      ·exact ⟨_, putE_mem.2 (.inl rfl), hrn.symm⟩
      ·have h5 : ¬ (refs.any fun r => r != name && (findE L r).isNone) = true := h4
       rw [List.any_eq_true] at h5
       have h6 : (findE L r).isSome = true := by
        cases hfr : findE L r with
        | some _ => rfl
        | none => exact absurd ⟨r, hr, by simp [hrn, hfr]⟩ h5
       obtain ⟨x, hx, hxe⟩ := findE_isSome.1 h6
       exact ⟨x, putE_mem.2 (.inr hx), hxe⟩
     ·obtain ⟨x, hx, hxe⟩ := findE_isSome.1 (h.has e he r hr)
      exact ⟨x, putE_mem.2 (.inr hx), hxe⟩
def readyB (L : Ents) (all out : List (List UInt8)) (e : Ent) : Bool := all.contains e.path && !out.contains e.path && e.refs.all fun r => r == e.path || out.contains r
def closF (L : Ents) (all : List (List UInt8)) : Nat → List (List UInt8) → List (List UInt8)
 | 0, out => out
 | f + 1, out => match L.find? (readyB L all out) with
   | none => out
   | some e => closF L all f (out ++ [e.path])
def hstep (x : Int) (b : UInt8) : Int := IntKind.u64.wrap (bits BinOp.xor IntKind.u64 x (IntKind.u64.wrap ↑b.toNat) * 1099511628211)
def hashL (l : List UInt8) : Int := l.foldl hstep 14695981039346656037
theorem take_snoc (s : ByteArray) (k : Nat) (h : k < s.size) : s.data.toList.take (k + 1) = s.data.toList.take k ++ [s[k]] := by
 rw [List.take_succ_eq_append_getElem (by simpa using h)]; rfl
theorem take_all (s : ByteArray) (k : Nat) (h : ¬ k < s.size) : s.data.toList.take k = s.data.toList := by
 rw [List.take_of_length_le]; simpa using h
theorem hashL_snoc (s : ByteArray) (k : Nat) (h : k < s.size) : hashL (s.data.toList.take (k + 1)) = hstep (hashL (s.data.toList.take k)) s[k] := by
 rw [take_snoc s k h]; simp [hashL]
def hbyte (x : Int) (k : Nat) : Int := x / 2 ^ (8 * k) % 256
def sumL (x : Int) (j : Nat) : List UInt8 := (List.range j).map fun k => UInt8.ofNat (hbyte x k).toNat
def sumB (x : Int) (j : Nat) : ByteArray := ⟨(sumL x j).toArray⟩
def sumOf (l : List UInt8) : ByteArray := sumB (hashL l) 8
def SumRow (w : World) (b : Nat) (x : Int) (j : Nat) : Prop := ∃ c, Blk w b c 5 ∧ c.size = 8 ∧ ∀ i, i < j → c[i]? = some (.int .u8 (hbyte x i))
theorem SumRow.cell {w : World} {b : Nat} {x : Int} {j : Nat} (h : SumRow w b x j) (hj : j < 8) : ∃ v, w.cell? ⟨b, j, none⟩ = some v := by
 obtain ⟨c, h1, h2, h3⟩ := h
 exact ⟨c[j], by rw [h1.cell, Array.getElem?_eq_getElem (by omega)]⟩
theorem SumRow.free {w : World} {b : Nat} {x : Int} {j : Nat} (h : SumRow w b x j) (k : Nat) : w.frozen? ⟨b, k, none⟩ = false := by
 obtain ⟨c, h1, h2, h3⟩ := h
 exact h1.free _
theorem SumRow.set {w : World} {b : Nat} {x : Int} {j : Nat} (h : SumRow w b x j) (hj : j < 8) : SumRow (w.setCell ⟨b, j, none⟩ (.int .u8 (hbyte x j))) b x (j + 1) := by
 obtain ⟨c, h1, h2, h3⟩ := h
 refine ⟨_, h1.set j _, by simpa using h2, fun i hi => ?_⟩
 by_cases e : i = j
 ·subst e; rw [Array.getElem?_setIfInBounds]; simp; omega
 ·rw [Array.getElem?_setIfInBounds_ne (by omega)]; exact h3 i (by omega)
theorem hbyte_nat (x : Int) (i : Nat) : ((UInt8.ofNat (hbyte x i).toNat).toNat : Int) = hbyte x i := by
 have h0 : 0 ≤ hbyte x i := Int.emod_nonneg _ (by omega)
 have h1 : hbyte x i < 256 := Int.emod_lt_of_pos _ (by omega)
 rw [UInt8.toNat_ofNat']; omega
theorem SumRow.str {P : Program} {w : World} {b : Nat} {x : Int} (h : SumRow w b x 8) {t e d : TypeId} (ht : P.underlying t = some (.slice e)) (he : P.underlying e = some (.int .u8)) (hd : P.underlying d = some .string) :
 (convert t d (.slice (some ⟨b, 0, none⟩) 8 8)).run P w = .ok (.string (sumB x 8)) w := by
 obtain ⟨c, h1, h2, h3⟩ := h
 refine run_string_sl (E := 5) (B := 0) t e ht he d hd (sumL x 8) ⟨by simp [bvs, sumL], .inr ⟨b, 0, 8, c, rfl, by omega, h1, by omega, by simp [maxLen], by omega, fun j hj => ?_⟩⟩
 have hj' : j < 8 := by omega
 rw [Nat.zero_add, h3 j hj', bvs, List.getElem?_map, sumL, List.getElem?_map, List.getElem?_range hj']
 exact congrArg (fun n => some (Value.int .u8 n)) (hbyte_nat x j).symm
set_option maxHeartbeats 400000 in
set_option maxRecDepth 100000 in
theorem sum_any (s : ByteArray) (w : World) (hs : s.size ≤ maxLen) :
 Calls Tryz.prog 42 #[.string s] w fun e w' => e = .returned (.string (sumOf s.data.toList)) ∧ Keeps Non w w' := by
 unfold maxLen at hs
 go_enter Tryz.func42, Tryz.ntmps42
 go_wp2
 go_loop [3, 9] (fun h i => ∃ k : Nat, k ≤ s.size ∧ i = .int .i64 k ∧ ∃ x : Int, h = .int .u64 x ∧ Hid (x = hashL (s.data.toList.take k))) (fun _ i => s.size - (intOf i).toNat)
 case atStart => exact ⟨0, by omega, rfl, 14695981039346656037, rfl, rfl⟩
 case round =>
  obtain ⟨k, hk, rfl, x, rfl, hx⟩ := hrel
  by_cases hlt : k < s.size
  ·go_wp2
   go_round
   case rel => exact ⟨k + 1, by omega, by go_num, _, rfl, by have := hashL_snoc s k hlt; rw [← hx.out] at this; exact this.symm⟩
   case measure => simp [intOf]; omega
  ·have hmk : ∀ w, (Instr.makeSlice 45 (.int .i64 8) (.int .i64 8)).run Tryz.prog w = .ok (.slice (some ⟨w.heap.size, 0, none⟩) 8 8) (w.alloc (.cells #[.int .u8 0, .int .u8 0, .int .u8 0, .int .u8 0, .int .u8 0, .int .u8 0, .int .u8 0, .int .u8 0] 5)) := fun _ => by kernel_rfl
   go_wp2
   clear hmk
   go_loopw [6, 23] (fun _ i wr => ∃ j : Nat, j ≤ 8 ∧ i = .int .i64 j ∧ SumRow wr w.heap.size x j ∧ Keeps Non w wr) (fun _ i _ => 8 - (intOf i).toNat)
   case atStart => exact ⟨0, by omega, rfl, ⟨_, Blk.new _ _ _, by simp, fun i hi => by omega⟩, (Keeps.refl _ _).alloc _⟩
   case round =>
    obtain ⟨j, hj, rfl, hrow, hkp⟩ := hrel
    by_cases hlt' : j < 8
    ·obtain ⟨v, hc⟩ := hrow.cell hlt'
     have hf := hrow.free j
     have HS : Hid (SumRow (wr.setCell ⟨w.heap.size, j, none⟩ (.int .u8 (hbyte x j))) w.heap.size x (j + 1)) := hrow.set hlt'
     have HK : Hid (Keeps Non w (wr.setCell ⟨w.heap.size, j, none⟩ (.int .u8 (hbyte x j)))) := hkp.setCell _ _ (.inr (Nat.le_refl _))
     clear hkp hrow
     go_wp2
     go_roundw
     case rel => exact ⟨j + 1, by omega, by go_num, HS.out, HK.out⟩
     case measure => simp [intOf]; omega
    ·obtain rfl : j = 8 := by omega
     rw [take_all s k hlt] at hx
     have hst := hrow.str Tryz.underlying45 Tryz.underlying5 Tryz.underlying9
     have HK := Lib.hid hkp
     clear hkp hrow
     go_wp2
     go_ret
     obtain rfl := hx.out
     exact ⟨rfl, HK.out⟩
end Go.Proofs.YtdkogijdfgfpeaaGreatDoor

/- strings.Builder, made by the call itself and only written. -/
import Derived.Test.YtdkogijdfgfpeaaGreatDoorVMem
import Derived.Lib.Hide
import Derived.Lib.Builder
import Derived.Lib.UnsafeStr
import Derived.Deep.QuietTactic
import Derived.BigQuiet
import Derived.BigRegion
import Derived.RegionTactic
import Derived.KernelRfl
set_option linter.unusedVariables false
namespace Go.Proofs.YtdkogijdfgfpeaaGreatDoor
open Go Go.RowKit
def BuilderAt (w : World) (B b : Nat) (l : List UInt8) : Prop :=
 ∃ pv v, Blk w b #[pv, v] 93 ∧ B ≤ b ∧ (pv = .pointer none ∨ pv = .pointer (some ⟨b, 0, none⟩)) ∧ Sl w B 5 1 v l.length (bvs l) ∧ ∀ a, sbase v = some a → a.off = 0
theorem BuilderAt.new (w : World) : BuilderAt (w.alloc (.cells #[.pointer none, .slice none 0 0] 93)) w.heap.size w.heap.size [] :=
 ⟨_, _, Blk.new w _ _, Nat.le_refl _, .inl rfl, Sl.nil _ _ _ _, fun a h => by cases h⟩
theorem BuilderAt.kp {w w' : World} {B b : Nat} {l : List UInt8} (h : BuilderAt w B b l) {B' : Nat} {Ts : List TypeId} (k : Kp B' Ts w w') (hn : w.heap.size ≤ B' ∨ (93 ∉ Ts ∧ 5 ∉ Ts)) : BuilderAt w' B b l := by
 obtain ⟨pv, v, hb, hB, hp, hs, h0⟩ := h
 exact ⟨pv, v, hb.kp k (by rcases hn with hn | hn; exact .inl (Nat.lt_of_lt_of_le hb.lt hn); exact .inr hn.1), hB, hp, hs.kp k (by rcases hn with hn | hn; exact .inr hn; exact .inl hn.2), h0⟩
theorem BuilderAt.lt {w : World} {B b : Nat} {l : List UInt8} (h : BuilderAt w B b l) : B ≤ b ∧ b < w.heap.size := by
 obtain ⟨pv, v, hb, hB, hp, hs, h0⟩ := h
 exact ⟨hB, hb.lt⟩
theorem sizeBuilder : (Tryz.prog.info? 93).map (·.size) = some 2 := by kernel_rfl
theorem liesBuilder : liesAt Tryz.prog Tryz.prog.depth 93 (2 / Tryz.prog.cellsOf 93) 0 93 1 = true := by kernel_rfl
theorem cellsByte : Tryz.prog.cellsOf 5 = 1 := by kernel_rfl
theorem infoByte : (Tryz.prog.info? 5).map (fun i => (i.zero, i.size, i.bytes)) = some (some (.int .u8 0), 1, 1) := by kernel_rfl
set_option maxHeartbeats 400000 in
set_option maxRecDepth 100000 in
theorem copyCheck_any (b : Nat) (pv v : Value) (w : World) (hb : Blk w b #[pv, v] 93) (hp : pv = .pointer none ∨ pv = .pointer (some ⟨b, 0, none⟩)) :
 Calls Tryz.prog 75 #[.pointer (some ⟨b, 0, none⟩)] w fun e w' => e = .returned (.tuple #[]) ∧ Blk w' b #[.pointer (some ⟨b, 0, none⟩), v] 93 ∧ Keeps (One b) w w' := by
 have h0 := hb.cell 0
 have f0 := hb.free 0
 obtain ⟨j, hj, hjs⟩ := Option.map_eq_some_iff.1 sizeBuilder
 rcases hp with rfl | rfl
 ·have hsh : w.shape? b = some (93, 2) := by unfold Blk at hb; simp [World.shape?, hb]
  go_enter Tryz.func75, Tryz.ntmps75
  go_wp2
  rw [Lib.run_to_unsafe w ⟨b, 0, none⟩ Tryz.underlying91 Tryz.underlying175 hj (by rw [hjs]; decide) hsh (Nat.zero_lt_succ 1)]
  simp only [Result.andThen]
  rw [Oper.upon_value]
  go_wp2
  rw [run_callFunc_extern Tryz.func113 (by kernel_rfl) (by kernel_rfl) (by kernel_rfl) (e := Extern.AbiNoEscape.same) (by kernel_rfl)]
  rw [Lib.run_noEscape]
  simp only [Result.andThen]
  rw [Oper.upon_value]
  go_wp2
  rw [Lib.run_from_unsafe w ⟨b, 0, none⟩ Tryz.underlying175 Tryz.underlying91 hj hsh liesBuilder]
  simp only [Result.andThen]
  rw [Oper.upon_value]
  go_wp2
  go_end0
  exact ⟨rfl, hb.set 0 _, (Keeps.refl _ _).setCell _ _ (.inl rfl)⟩
 ·have hne := Lib.run_neq_ptr_same (P := Tryz.prog) w ⟨b, 0, none⟩ Tryz.underlying91 hj
  go_enter Tryz.func75, Tryz.ntmps75
  go_wp2
  go_end0
  exact ⟨rfl, hb, Keeps.refl _ _⟩
set_option maxHeartbeats 400000 in
set_option maxRecDepth 100000 in
theorem writeString_any (B b : Nat) (l : List UInt8) (s : ByteArray) (w : World) (h : BuilderAt w B b l) (hl : l.length + s.size ≤ 140737488355328) :
 Calls Tryz.prog 40 #[.pointer (some ⟨b, 0, none⟩), .string s] w fun e w' => e = .returned (.tuple #[.int .i64 s.size, .nilIface]) ∧ BuilderAt w' B b (l ++ s.data.toList) ∧ Kp B [93, 5] w w' := by
 obtain ⟨pv, v, hb, hB, hp, hs, h0⟩ := h
 obtain ⟨i0, hi, hz0, hz1, hz2⟩ := info_parts infoByte
 go_enter Tryz.func40, Tryz.ntmps40
 go_wp2_with fail
 refine (copyCheck_any b pv v w hb hp).mono ?_
 rintro e w1 ⟨rfl, hb1, hk1⟩
 have hs1 : Sl w1 B 5 1 v l.length (bvs l) := hs.keep fun b' c e hB' hbb => hbb.keeps hk1 (fun e => by
  cases e; exact absurd (hb.inj hbb).2 (by decide))
 have kp1 : Kp B [93, 5] w w1 := ⟨hk1.os, hk1.tape, hk1.output, hk1.size, fun k hk => by
  by_cases e : k = b
  ·subst e; exact .inr ⟨hB, _, _, _, by simp, hb, hb1⟩
  ·exact .inl (hk1.block k hk e)⟩
 have c1 : w1.cell? ⟨b, 1, none⟩ = some v := hb1.cell 1
 go_wp2_with (at_builtin; refine wpList_append_sl rfl _ _ 45 9 rfl 5 i0 (.int .u8 0) 1 1 Tryz.underlying45 hi hz0 hz1 hz2 rfl B _ _ _ rfl _ rfl s.size (bvs s.data.toList) ?c1 hs1 ?c2 ?c3 ?c4 ?_)
 case c1 => have := hb1.lt; omega
 case c2 => exact Src.ofString w1 Tryz.underlying9 s
 case c3 => unfold maxLen; omega
 case c4 => omega
 intro v' w2 hs2 hk2 hb2
 obtain ⟨ao, cc, rfl, -, -⟩ := hs2.shape
 have hb2' := hb1.kp hk2 (.inr (by decide))
 have d1 : w2.cell? ⟨b, 1, none⟩ = some v := hb2'.cell 1
 have f1 := hb2'.free 1
 have HB := Lib.hid hb2
 have HO := Lib.hid h0
 clear hb2 h0 hs hb hp hs1 c1 hb1 hi hz0 hz1 hz2
 go_wp2
 go_ret2
 refine ⟨rfl, ⟨_, _, hb2'.set 1 _, hB, .inr rfl, ?_, ?_⟩, ?_⟩
 ·have := hs2.kp ((Kp.refl B [93] w2).set hb2' (.inr ⟨hB, by simp⟩) 1 (.slice ao (l.length + s.size) cc)) (.inl (by decide))
  simpa [bvs] using this
 ·intro a ha
  rcases HB.out with e | e
  ·exact HO.out a (e.symm.trans ha)
  ·rw [ha] at e; cases e; rfl
 ·exact (kp1.trans' hk2 (.inr ⟨Nat.le_refl _, by simp⟩)).set hb2' (.inr ⟨hB, by simp⟩) _ _
set_option maxHeartbeats 400000 in
set_option maxRecDepth 100000 in
theorem writeByte_any (B b : Nat) (l : List UInt8) (c : UInt8) (w : World) (h : BuilderAt w B b l) (hl : l.length + 1 ≤ 140737488355328) :
 Calls Tryz.prog 76 #[.pointer (some ⟨b, 0, none⟩), bv c] w fun e w' => e = .returned .nilIface ∧ BuilderAt w' B b (l ++ [c]) ∧ Kp B [93, 5] w w' := by
 obtain ⟨pv, v, hb, hB, hp, hs, h0⟩ := h
 obtain ⟨i0, hi, hz0, hz1, hz2⟩ := info_parts infoByte
 unfold bv
 go_enter Tryz.func76, Tryz.ntmps76
 go_wp2_with fail
 refine (copyCheck_any b pv v w hb hp).mono ?_
 rintro e w1 ⟨rfl, hb1, hk1⟩
 have hs1 : Sl w1 B 5 1 v l.length (bvs l) := hs.keep fun b' c e hB' hbb => hbb.keeps hk1 (fun e => by
  cases e; exact absurd (hb.inj hbb).2 (by decide))
 have kp1 : Kp B [93, 5] w w1 := ⟨hk1.os, hk1.tape, hk1.output, hk1.size, fun k hk => by
  by_cases e : k = b
  ·subst e; exact .inr ⟨hB, _, _, _, by simp, hb, hb1⟩
  ·exact .inl (hk1.block k hk e)⟩
 have c1 : w1.cell? ⟨b, 1, none⟩ = some v := hb1.cell 1
 go_wp2_with (at_builtin; refine wpList_append_sl rfl _ _ 45 45 rfl 5 i0 (.int .u8 0) 1 1 Tryz.underlying45 hi hz0 hz1 hz2 rfl B _ _ _ rfl _ rfl 1 [.int .u8 c.toNat] ?c1 (hs1.alloc _) ?c2 ?c3 ?c4 ?_)
 case c1 => have := hb1.lt; simp; omega
 case c2 => exact Src.ofSl Tryz.underlying45 (Sl.of_new w1 0 (Nat.zero_le _) 5 1 1 [.int .u8 c.toNat] rfl (by simp [maxLen])) (by simp [Value.oneCell'])
 case c3 => unfold maxLen; omega
 case c4 => omega
 intro v' w2 hs2 hk2 hb2
 obtain ⟨ao, cc, rfl, -, -⟩ := hs2.shape
 have kp2 : Kp B [93, 5] w w2 := (kp1.alloc _).trans' hk2 (.inr ⟨Nat.le_refl _, by simp⟩)
 have hb2' := (hb1.alloc (.cells #[.int .u8 c.toNat] 5)).kp hk2 (.inr (by decide))
 have d1 : w2.cell? ⟨b, 1, none⟩ = some v := hb2'.cell 1
 have f1 := hb2'.free 1
 have HB := Lib.hid hb2
 have HO := Lib.hid h0
 clear hb2 h0 hs hb hp hs1 c1 hb1 hi hz0 hz1 hz2
 go_wp2
 go_ret
 refine ⟨rfl, ⟨_, _, hb2'.set 1 _, hB, .inr rfl, ?_, ?_⟩, ?_⟩
 ·have := hs2.kp ((Kp.refl B [93] w2).set hb2' (.inr ⟨hB, by simp⟩) 1 (.slice ao (l.length + 1) cc)) (.inl (by decide))
  simpa [bvs, bv] using this
 ·intro a ha
  rcases HB.out with e | e
  ·exact HO.out a (e.symm.trans ha)
  ·have e' := e.symm.trans ha; cases e'; rfl
 ·exact kp2.set hb2' (.inr ⟨hB, by simp⟩) _ _
set_option maxHeartbeats 400000 in
set_option maxRecDepth 100000 in
theorem bstring_any (B b : Nat) (l : List UInt8) (w : World) (h : BuilderAt w B b l) (hl : l ≠ []) :
 Calls Tryz.prog 43 #[.pointer (some ⟨b, 0, none⟩)] w fun e w' => e = .returned (.string ⟨l.toArray⟩) ∧ Below B w w' := by
 obtain ⟨pv, v, hb, hB, hp, hs, h0⟩ := h
 have hl0 : 0 < l.length := List.length_pos_iff.2 hl
 obtain ⟨hs1, ⟨rfl, h1⟩ | ⟨g, off, cap, c, rfl, hBg, hg, hnc, hcm, hcs, hc⟩⟩ := hs
 ·omega
 obtain rfl : off = 0 := h0 _ rfl
 clear h0
 have c1 : w.drew.cell? ⟨b, 1, none⟩ = some (.slice (some ⟨g, 0, none⟩) l.length cap) := hb.cell 1
 have hSD : (Builtin.unsafeSliceData_ #[45] 150 #[.slice (some ⟨g, 0, none⟩) l.length cap]).run Tryz.prog w.drew = .ok (.pointer (some ⟨g, 0, none⟩)) w.drew :=
  Lib.run_unsafeSliceData_row _ _ _ _ _ _ (by omega)
 have hUS : (Builtin.unsafeString_ #[150, 3] 9 #[.pointer (some ⟨g, 0, none⟩), .int .i64 l.length]).run Tryz.prog w.drew = .ok (.string ⟨l.toArray⟩) (w.drew.freeze ⟨g, 0, none⟩ l.length) := by
  refine Lib.run_unsafeString_row w.drew 150 3 9 5 Tryz.underlying150 cellsByte g c.size (by have hg' : w.drew.heap[g]? = some (.cells c 5 (0, 0)) := hg; simp [World.shape?, hg']) l hl (by omega) (by unfold maxLen at hcm; omega) ?_
  intro j x hx
  have hj : j < l.length := (List.getElem?_eq_some_iff.1 hx).1
  rw [Addr.add_lit]
  refine (hg.cell _).trans ((hc j (by omega)).trans ?_)
  simp [bvs, bv, hx]
 have HG : Hid (Below B w (w.drew.freeze ⟨g, 0, none⟩ l.length)) := Lib.below_freeze (Below.drew (Below.refl B w)) (p := ⟨g, 0, none⟩) hBg _
 clear hg hc hb hp hs1 hcs hl
 go_enter Tryz.func43, Tryz.ntmps43
 go_wp2
 go_region
 all_goals (go_wp2; go_ret; exact ⟨rfl, HG.out⟩)
def padN (n : Nat) : Nat := (8 - n % 8) % 8
def leB (n i : Nat) : UInt8 := UInt8.ofNat (n / 2 ^ (8 * i) % 256)
def le8 (n : Nat) : List UInt8 := (List.range 8).map (leB n)
def putL (s : List UInt8) : List UInt8 := le8 s.length ++ s ++ List.replicate (padN s.length) 0
def putAll (l : List (List UInt8)) : List UInt8 := l.flatMap putL
def sv (s : List UInt8) : Value := .string ⟨s.toArray⟩
def svs (l : List (List UInt8)) : List Value := l.map sv
theorem svs_one (l : List (List UInt8)) : ∀ u ∈ svs l, u.oneCell' = true := fun u hu => by
 obtain ⟨_, _, rfl⟩ := List.mem_map.1 hu
 rfl
theorem putL_length (s : List UInt8) : (putL s).length = 8 + s.length + padN s.length := by simp [putL, le8]; omega
theorem padN_lt (n : Nat) : padN n < 8 := by unfold padN; omega
theorem putAll_snoc (l : List (List UInt8)) (k : Nat) (h : k < l.length) : putAll (l.take (k + 1)) = putAll (l.take k) ++ putL l[k] := by
 unfold putAll; rw [List.take_succ_eq_append_getElem h, List.flatMap_append]; simp
theorem neg_and7 (n : Nat) : bits BinOp.and IntKind.i64 (-(n : Int)) 7 = (padN n : Int) := by
 have hx : (BitVec.ofInt 64 (-(n : Int)) &&& BitVec.ofInt 64 7).toNat = padN n := by
  rw [BitVec.toNat_and]
  have h7 : (BitVec.ofInt 64 7).toNat = 2 ^ 3 - 1 := by decide
  rw [h7, Nat.and_two_pow_sub_one_eq_mod, BitVec.toNat_ofInt]
  unfold padN
  omega
 show IntKind.i64.wrap ((BitVec.ofInt 64 (-(n : Int)) &&& BitVec.ofInt 64 7).toNat : Int) = _
 rw [hx, IntKind.wrap_i64]
 have := padN_lt n
 omega
theorem zeros_take (k : Nat) (h : k ≤ 7) : (⟨#[0, 0, 0, 0, 0, 0, 0]⟩ : ByteArray).extract 0 k = ⟨(List.replicate k (0 : UInt8)).toArray⟩ := by
 rcases k with _ | _ | _ | _ | _ | _ | _ | _ | k <;> first | rfl | omega
theorem leB_int (n i : Nat) : ((n : Int) / 2 ^ (8 * i) % 256) = ((leB n i).toNat : Int) := by
 unfold leB
 rw [UInt8.toNat_ofNat']
 have : n / 2 ^ (8 * i) % 256 % 2 ^ 8 = n / 2 ^ (8 * i) % 256 := Nat.mod_eq_of_lt (by omega)
 rw [this]
 simp
theorem le8_snoc (n j : Nat) (h : j < 8) : (le8 n).take (j + 1) = (le8 n).take j ++ [leB n j] := by
 rw [List.take_succ_eq_append_getElem (by simp [le8]; omega)]; simp [le8]
theorem le8_all (n : Nat) : (le8 n).take 8 = le8 n := List.take_of_length_le (by simp [le8])
def roomOf (l : List (List UInt8)) : Nat := (l.map fun s => s.length + 16).sum
theorem putAll_le (l : List (List UInt8)) : (putAll l).length ≤ roomOf l := by
 induction l with
 | nil => simp [putAll]
 | cons s l ih =>
   have := padN_lt s.length
   have h1 := putL_length s
   simp only [putAll, List.flatMap_cons, List.length_append, roomOf, List.map_cons, List.sum_cons] at *
   omega
theorem roomOf_take (l : List (List UInt8)) (k : Nat) (h : k < l.length) : roomOf (l.take k) + (l[k].length + 16) ≤ roomOf l := by
 have e : roomOf l = roomOf (l.take k) + roomOf (l.drop k) := by
  unfold roomOf
  rw [← List.sum_append, ← List.map_append, List.take_append_drop]
 have e2 : roomOf (l.drop k) = (l[k].length + 16) + roomOf (l.drop (k + 1)) := by
  rw [List.drop_eq_getElem_cons h]; rfl
 omega
set_option maxHeartbeats 800000 in
set_option maxRecDepth 100000 in
theorem put_any (v : Value) (l : List (List UInt8)) (w : World) (hv : Sl w 0 9 1 v l.length (svs l)) (hl : 0 < l.length) (hr : roomOf l ≤ 70368744177664) :
 Calls Tryz.prog 41 #[v] w fun e w' => e = .returned (sv (putAll l)) ∧ Keeps Non w w' := by
 obtain ⟨b, off, cap, rfl, -, hnc, hcm, hbl, hc, -⟩ := hv.pos hl
 unfold maxLen at hcm
 have HC : Hid (∀ k, k < l.length → w.cell? ⟨b, off + k, none⟩ = some (sv (l.getD k []))) := fun k hk => by
  rw [hc k (by omega)]; simp [svs, List.getD, List.getElem?_eq_getElem hk]
 clear hc hv
 go_enter Tryz.func41, Tryz.ntmps41
 go_wp2
 go_loopw [10] (fun i wr => ∃ k : Nat, k ≤ l.length ∧ i = .int .i64 k ∧ BuilderAt wr w.heap.size w.heap.size (putAll (l.take k)) ∧ Kp w.heap.size [93, 5] w wr) (fun i _ => l.length - (intOf i).toNat)
 case atStart => exact ⟨0, by omega, rfl, BuilderAt.new w, (Kp.refl _ _ _).alloc _⟩
 case round =>
  obtain ⟨k, hk, rfl, hbu, hkp⟩ := hrel
  by_cases hlt : k < l.length
  ·have hcell : wr.cell? ⟨b, off + k, none⟩ = some (sv (l.getD k [])) := ((hkp.below (Nat.le_refl _)).cell (p := ⟨b, off + k, none⟩) hbl).trans (HC.out k hlt)
   have hroom := roomOf_take l k hlt
   have hput := putAll_le (l.take k)
   have hsn := putAll_snoc l k hlt
   have hge : l.getD k [] = l[k] := by simp [List.getD, List.getElem?_eq_getElem hlt]
   rw [hge] at hcell
   have HSN := Lib.hid hsn
   clear hge hsn
   generalize hx : l[k] = x at *
   generalize hy : putAll (l.take k) = y at *
   have HK := Lib.hid hkp
   clear hkp
   unfold sv at hcell
   go_wp2
   go_loopw [16] (fun i wq => ∃ j : Nat, j ≤ 8 ∧ i = .int .i64 j ∧ BuilderAt wq w.heap.size w.heap.size (y ++ (le8 x.length).take j) ∧ Kp w.heap.size [93, 5] w wq) (fun i _ => 8 - (intOf i).toNat)
   case atStart => exact ⟨0, by omega, rfl, by simpa using hbu, HK.out⟩
   case round =>
    obtain ⟨j, hj, rfl, hbu', hkp'⟩ := hrel
    have HK' := Lib.hid hkp'
    clear hkp' hbu HK
    by_cases hlt' : j < 8
    ·have hby : ((x.length : Int) / 2 ^ (8 * j) % 256) = ((leB x.length j).toNat : Int) := leB_int _ _
     have hlen : (y ++ (le8 x.length).take j).length + 1 ≤ 140737488355328 := by rw [List.length_append, List.length_take]; omega
     have HL := Lib.hid hlen
     have HB := Lib.hid hby
     clear hlen hby
     go_wp2_with fail
     rw [HB.out]
     refine (writeByte_any _ _ _ (leB x.length j) _ hbu' HL.out).mono ?_
     rintro e w1 ⟨rfl, hb1, hk1⟩
     have HK1 := Lib.hid (HK'.out.trans hk1)
     rw [List.append_assoc, ← le8_snoc _ _ hlt'] at hb1
     clear hk1 hbu' HK'
     go_wp2
     go_roundw
     case rel => exact ⟨j + 1, by omega, by go_num, hb1, HK1.out⟩
     case measure => simp [intOf]; omega
    ·obtain rfl : j = 8 := by omega
     rw [le8_all] at hbu'
     have hl1 : (y ++ le8 x.length).length = y.length + 8 := by simp [le8]
     go_wp2_with fail
     refine (writeString_any _ _ _ ⟨x.toArray⟩ _ hbu' (by rw [hl1]; show _ + x.toArray.size ≤ _; simp; omega)).mono ?_
     rintro e w1 ⟨rfl, hb1, hk1⟩
     have HK1 := Lib.hid (HK'.out.trans hk1)
     clear hk1 hbu' HK'
     have hand := neg_and7 x.length
     have hp := padN_lt x.length
     go_wp2_with fail
     rw [zeros_take _ (by omega)]
     have hl2 : (y ++ le8 x.length ++ x).length = y.length + 8 + x.length := by simp [le8]; omega
     refine (writeString_any _ _ _ _ _ hb1 (by rw [hl2]; show _ + (List.replicate (padN x.length) (0 : UInt8)).toArray.size ≤ _; simp; omega)).mono ?_
     rintro e w2 ⟨rfl, hb2, hk2⟩
     have HK2 := Lib.hid (HK1.out.trans hk2)
     have hb3 : BuilderAt w2 w.heap.size w.heap.size (putAll (l.take (k + 1))) := by
      rw [HSN.out]; simpa [putL] using hb2
     clear hk2 hb1 hb2 HK1 hand hl2
     go_wp2
     go_roundw
     case rel => exact ⟨k + 1, by omega, by go_num, hb3, HK2.out⟩
     case measure => simp [intOf]; omega
  ·obtain rfl : k = l.length := by omega
   rw [List.take_length] at hbu
   have HK := Lib.hid hkp
   clear hkp
   go_wp2_with fail
   refine (bstring_any _ _ _ _ hbu ?_).mono ?_
   ·intro e
    have : putAll l = putL l[0] ++ putAll (l.drop 1) := by
     cases l with
     | nil => simp at hl
     | cons a r => simp [putAll]
    have h8 := congrArg List.length this
    rw [e, List.length_append, putL_length] at h8
    simp at h8
    omega
   ·rintro e w1 ⟨rfl, hb1⟩
    have HB := Lib.hid hb1
    clear hb1
    go_wp2
    go_ret
    refine ⟨rfl, ?_⟩
    have h1 : Below w.heap.size w w1 := (HK.out.below (Nat.le_refl _)).trans HB.out
    exact Keeps.of_below h1 (fun k hk _ => hk)
end Go.Proofs.YtdkogijdfgfpeaaGreatDoor

/- strings.Builder, made by the call itself and only written. -/
import Derived.Test.YtohbjbicmgnblaaDoorChecked
import Derived.Test.YtohbjbicmgnblaaDoorMem
import Derived.Lib.Hide
import Derived.Lib.Builder
import Derived.Lib.UnsafeStr
import Derived.Deep.QuietTactic
import Derived.BigQuiet
import Derived.BigRegion
import Derived.RegionTactic
import Derived.KernelRfl
namespace Go.Proofs.YtohbjbicmgnblaaDoor
open Go Go.RowKit
set_option linter.unusedVariables false

/-- a builder in block b, its bytes l; all of it from block B on -/
def BuilderAt (w : World) (B b : Nat) (l : List UInt8) : Prop :=
  ∃ pv v, Blk w b #[pv, v] 75 ∧ B ≤ b ∧ (pv = .pointer none ∨ pv = .pointer (some ⟨b, 0, none⟩)) ∧ Sl w B 5 1 v l.length (bvs l) ∧ ∀ a, sbase v = some a → a.off = 0

theorem BuilderAt.new (w : World) : BuilderAt (w.alloc (.cells #[.pointer none, .slice none 0 0] 75)) w.heap.size w.heap.size [] :=
  ⟨_, _, Blk.new w _ _, Nat.le_refl _, .inl rfl, Sl.nil _ _ _ _, fun a h => by cases h⟩
theorem BuilderAt.kp {w w' : World} {B b : Nat} {l : List UInt8} (h : BuilderAt w B b l) {B' : Nat} {Ts : List TypeId} (k : Kp B' Ts w w') (hn : w.heap.size ≤ B' ∨ (75 ∉ Ts ∧ 5 ∉ Ts)) : BuilderAt w' B b l := by
  obtain ⟨pv, v, hb, hB, hp, hs, h0⟩ := h
  exact ⟨pv, v, hb.kp k (by rcases hn with hn | hn; exact .inl (Nat.lt_of_lt_of_le hb.lt hn); exact .inr hn.1), hB, hp, hs.kp k (by rcases hn with hn | hn; exact .inr hn; exact .inl hn.2), h0⟩
theorem BuilderAt.lt {w : World} {B b : Nat} {l : List UInt8} (h : BuilderAt w B b l) : B ≤ b ∧ b < w.heap.size := by
  obtain ⟨pv, v, hb, hB, hp, hs, h0⟩ := h
  exact ⟨hB, hb.lt⟩

theorem sizeBuilder : (Tryd.prog.info? 75).map (·.size) = some 2 := by kernel_rfl
theorem liesBuilder : liesAt Tryd.prog Tryd.prog.depth 75 (2 / Tryd.prog.cellsOf 75) 0 75 1 = true := by kernel_rfl
theorem cellsByte : Tryd.prog.cellsOf 5 = 1 := by kernel_rfl
theorem infoByte : (Tryd.prog.info? 5).map (fun i => (i.zero, i.size, i.bytes)) = some (some (.int .u8 0), 1, 1) := by kernel_rfl

set_option maxHeartbeats 400000 in
set_option maxRecDepth 100000 in
theorem copyCheck_any (b : Nat) (pv v : Value) (w : World) (hb : Blk w b #[pv, v] 75) (hp : pv = .pointer none ∨ pv = .pointer (some ⟨b, 0, none⟩)) :
    Calls Tryd.prog 52 #[.pointer (some ⟨b, 0, none⟩)] w fun e w' => e = .returned (.tuple #[]) ∧ Blk w' b #[.pointer (some ⟨b, 0, none⟩), v] 75 ∧ Keeps (One b) w w' := by
  have h0 := hb.cell 0
  have f0 := hb.free 0
  obtain ⟨j, hj, hjs⟩ := Option.map_eq_some_iff.1 sizeBuilder
  rcases hp with rfl | rfl
  · have hsh : w.shape? b = some (75, 2) := by unfold Blk at hb; simp [World.shape?, hb]
    go_enter Tryd.func52, Tryd.ntmps52
    go_wp2
    rw [Lib.run_to_unsafe w ⟨b, 0, none⟩ Tryd.underlying73 Tryd.underlying109 hj (by rw [hjs]; decide) hsh (Nat.zero_lt_succ 1)]
    simp only [Result.andThen]
    rw [Oper.upon_value]
    go_wp2
    rw [run_callFunc_extern Tryd.func61 (by kernel_rfl) (by kernel_rfl) (by kernel_rfl) (e := Extern.AbiNoEscape.same) (by kernel_rfl)]
    rw [Lib.run_noEscape]
    simp only [Result.andThen]
    rw [Oper.upon_value]
    go_wp2
    rw [Lib.run_from_unsafe w ⟨b, 0, none⟩ Tryd.underlying109 Tryd.underlying73 hj hsh liesBuilder]
    simp only [Result.andThen]
    rw [Oper.upon_value]
    go_wp2
    go_end0
    exact ⟨rfl, hb.set 0 _, (Keeps.refl _ _).setCell _ _ (.inl rfl)⟩
  · have hne := Lib.run_neq_ptr_same (P := Tryd.prog) w ⟨b, 0, none⟩ Tryd.underlying73 hj
    go_enter Tryd.func52, Tryd.ntmps52
    go_wp2
    go_end0
    exact ⟨rfl, hb, Keeps.refl _ _⟩

set_option maxHeartbeats 400000 in
set_option maxRecDepth 100000 in
theorem writeString_any (B b : Nat) (l : List UInt8) (s : ByteArray) (w : World) (h : BuilderAt w B b l) (hl : l.length + s.size ≤ 140737488355328) :
    Calls Tryd.prog 29 #[.pointer (some ⟨b, 0, none⟩), .string s] w fun e w' => e = .returned (.tuple #[.int .i64 s.size, .nilIface]) ∧ BuilderAt w' B b (l ++ s.data.toList) ∧ Kp B [75, 5] w w' := by
  obtain ⟨pv, v, hb, hB, hp, hs, h0⟩ := h
  obtain ⟨i0, hi, hz0, hz1, hz2⟩ := info_parts infoByte
  go_enter Tryd.func29, Tryd.ntmps29
  go_wp2_with fail
  refine (copyCheck_any b pv v w hb hp).mono ?_
  rintro e w1 ⟨rfl, hb1, hk1⟩
  have hs1 : Sl w1 B 5 1 v l.length (bvs l) := hs.keep fun b' c e hB' hbb => hbb.keeps hk1 (fun e => by
    cases e; exact absurd (hb.inj hbb).2 (by decide))
  have kp1 : Kp B [75, 5] w w1 := ⟨hk1.os, hk1.tape, hk1.output, hk1.size, fun k hk => by
    by_cases e : k = b
    · subst e; exact .inr ⟨hB, _, _, _, by simp, hb, hb1⟩
    · exact .inl (hk1.block k hk e)⟩
  have c1 : w1.cell? ⟨b, 1, none⟩ = some v := hb1.cell 1
  go_wp2_with (at_builtin; refine wpList_append_sl rfl _ _ 49 9 rfl 5 i0 (.int .u8 0) 1 1 Tryd.underlying49 hi hz0 hz1 hz2 rfl B _ _ _ rfl _ rfl s.size (bvs s.data.toList) ?c1 hs1 ?c2 ?c3 ?c4 ?_)
  case c1 => have := hb1.lt; omega
  case c2 => exact Src.ofString w1 Tryd.underlying9 s
  case c3 => unfold maxLen; omega
  case c4 => omega
  intro v' w2 hs2 hk2 hb2
  obtain ⟨ao, cc, rfl, -, -⟩ := hs2.shape
  have hb2' := hb1.kp hk2 (.inr (by decide))
  have d1 : w2.cell? ⟨b, 1, none⟩ = some v := hb2'.cell 1
  have f1 := hb2'.free 1
  have HB := Lib.hid hb2
  have HO := Lib.hid h0
  clear hb2 h0 hs hb hp hs1 c1 hb1 hi hz0 hz1 hz2
  go_wp2
  go_ret2
  refine ⟨rfl, ⟨_, _, hb2'.set 1 _, hB, .inr rfl, ?_, ?_⟩, ?_⟩
  · have := hs2.kp ((Kp.refl B [75] w2).set hb2' (.inr ⟨hB, by simp⟩) 1 (.slice ao (l.length + s.size) cc)) (.inl (by decide))
    simpa [bvs] using this
  · intro a ha
    rcases HB.out with e | e
    · exact HO.out a (e.symm.trans ha)
    · rw [ha] at e; cases e; rfl
  · exact (kp1.trans' hk2 (.inr ⟨Nat.le_refl _, by simp⟩)).set hb2' (.inr ⟨hB, by simp⟩) _ _

set_option maxHeartbeats 400000 in
set_option maxRecDepth 100000 in
theorem writeByte_any (B b : Nat) (l : List UInt8) (c : UInt8) (w : World) (h : BuilderAt w B b l) (hl : l.length + 1 ≤ 140737488355328) :
    Calls Tryd.prog 53 #[.pointer (some ⟨b, 0, none⟩), bv c] w fun e w' => e = .returned .nilIface ∧ BuilderAt w' B b (l ++ [c]) ∧ Kp B [75, 5] w w' := by
  obtain ⟨pv, v, hb, hB, hp, hs, h0⟩ := h
  obtain ⟨i0, hi, hz0, hz1, hz2⟩ := info_parts infoByte
  unfold bv
  go_enter Tryd.func53, Tryd.ntmps53
  go_wp2_with fail
  refine (copyCheck_any b pv v w hb hp).mono ?_
  rintro e w1 ⟨rfl, hb1, hk1⟩
  have hs1 : Sl w1 B 5 1 v l.length (bvs l) := hs.keep fun b' c e hB' hbb => hbb.keeps hk1 (fun e => by
    cases e; exact absurd (hb.inj hbb).2 (by decide))
  have kp1 : Kp B [75, 5] w w1 := ⟨hk1.os, hk1.tape, hk1.output, hk1.size, fun k hk => by
    by_cases e : k = b
    · subst e; exact .inr ⟨hB, _, _, _, by simp, hb, hb1⟩
    · exact .inl (hk1.block k hk e)⟩
  have c1 : w1.cell? ⟨b, 1, none⟩ = some v := hb1.cell 1
  go_wp2_with (at_builtin; refine wpList_append_sl rfl _ _ 49 49 rfl 5 i0 (.int .u8 0) 1 1 Tryd.underlying49 hi hz0 hz1 hz2 rfl B _ _ _ rfl _ rfl 1 [.int .u8 c.toNat] ?c1 (hs1.alloc _) ?c2 ?c3 ?c4 ?_)
  case c1 => have := hb1.lt; simp; omega
  case c2 => exact Src.ofSl Tryd.underlying49 (Sl.of_new w1 0 (Nat.zero_le _) 5 1 1 [.int .u8 c.toNat] rfl (by simp [maxLen])) (by simp [Value.oneCell'])
  case c3 => unfold maxLen; omega
  case c4 => omega
  intro v' w2 hs2 hk2 hb2
  obtain ⟨ao, cc, rfl, -, -⟩ := hs2.shape
  have kp2 : Kp B [75, 5] w w2 := (kp1.alloc _).trans' hk2 (.inr ⟨Nat.le_refl _, by simp⟩)
  have hb2' := (hb1.alloc (.cells #[.int .u8 c.toNat] 5)).kp hk2 (.inr (by decide))
  have d1 : w2.cell? ⟨b, 1, none⟩ = some v := hb2'.cell 1
  have f1 := hb2'.free 1
  have HB := Lib.hid hb2
  have HO := Lib.hid h0
  clear hb2 h0 hs hb hp hs1 c1 hb1 hi hz0 hz1 hz2
  go_wp2
  go_ret
  refine ⟨rfl, ⟨_, _, hb2'.set 1 _, hB, .inr rfl, ?_, ?_⟩, ?_⟩
  · have := hs2.kp ((Kp.refl B [75] w2).set hb2' (.inr ⟨hB, by simp⟩) 1 (.slice ao (l.length + 1) cc)) (.inl (by decide))
    simpa [bvs, bv] using this
  · intro a ha
    rcases HB.out with e | e
    · exact HO.out a (e.symm.trans ha)
    · have e' := e.symm.trans ha; cases e'; rfl
  · exact kp2.set hb2' (.inr ⟨hB, by simp⟩) _ _

set_option maxHeartbeats 400000 in
set_option maxRecDepth 100000 in
/-- String, of a builder that holds a byte -/
theorem bstring_any (B b : Nat) (l : List UInt8) (w : World) (h : BuilderAt w B b l) (hl : l ≠ []) :
    Calls Tryd.prog 34 #[.pointer (some ⟨b, 0, none⟩)] w fun e w' => e = .returned (.string ⟨l.toArray⟩) ∧ Below B w w' := by
  obtain ⟨pv, v, hb, hB, hp, hs, h0⟩ := h
  have hl0 : 0 < l.length := List.length_pos_iff.2 hl
  obtain ⟨hs1, ⟨rfl, h1⟩ | ⟨g, off, cap, c, rfl, hBg, hg, hnc, hcm, hcs, hc⟩⟩ := hs
  · omega
  obtain rfl : off = 0 := h0 _ rfl
  clear h0
  have c1 : w.drew.cell? ⟨b, 1, none⟩ = some (.slice (some ⟨g, 0, none⟩) l.length cap) := hb.cell 1
  have hSD : (Builtin.unsafeSliceData_ #[49] 104 #[.slice (some ⟨g, 0, none⟩) l.length cap]).run Tryd.prog w.drew = .ok (.pointer (some ⟨g, 0, none⟩)) w.drew :=
    Lib.run_unsafeSliceData_row _ _ _ _ _ _ (by omega)
  have hUS : (Builtin.unsafeString_ #[104, 3] 9 #[.pointer (some ⟨g, 0, none⟩), .int .i64 l.length]).run Tryd.prog w.drew = .ok (.string ⟨l.toArray⟩) (w.drew.freeze ⟨g, 0, none⟩ l.length) := by
    refine Lib.run_unsafeString_row w.drew 104 3 9 5 Tryd.underlying104 cellsByte g c.size (by have hg' : w.drew.heap[g]? = some (.cells c 5 (0, 0)) := hg; simp [World.shape?, hg']) l hl (by omega) (by unfold maxLen at hcm; omega) ?_
    intro j x hx
    have hj : j < l.length := (List.getElem?_eq_some_iff.1 hx).1
    rw [Addr.add_lit]
    refine (hg.cell _).trans ((hc j (by omega)).trans ?_)
    simp [bvs, bv, hx]
  have HG : Hid (Below B w (w.drew.freeze ⟨g, 0, none⟩ l.length)) := Lib.below_freeze (Below.drew (Below.refl B w)) (p := ⟨g, 0, none⟩) hBg _
  clear hg hc hb hp hs1 hcs hl
  go_enter Tryd.func34, Tryd.ntmps34
  go_wp2
  go_region
  all_goals (go_wp2; go_ret; exact ⟨rfl, HG.out⟩)
end Go.Proofs.YtohbjbicmgnblaaDoor

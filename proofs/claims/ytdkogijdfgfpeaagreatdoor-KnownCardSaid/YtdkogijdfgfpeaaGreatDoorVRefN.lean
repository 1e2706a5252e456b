/- narref.reader: fail, next. -/
import Derived.Test.YtdkogijdfgfpeaaGreatDoorVRead
import Derived.Test.YtdkogijdfgfpeaaGreatDoorVRefA
import Derived.Test.YtdkogijdfgfpeaaGreatDoorVPMem
import Derived.Test.YtdkogijdfgfpeaaGreatDoorVPInv
import Derived.Deep.QuietTactic
import Derived.Test.YtdkogijdfgfpeaaGreatDoorVPack
import Derived.Test.YtdkogijdfgfpeaaGreatDoorVOwn
import Derived.Deep.RegionLaw
import Derived.Test.YtdkogijdfgfpeaaGreatDoorVShapeW
set_option linter.unusedVariables false
namespace Go.Proofs.YtdkogijdfgfpeaaGreatDoor
open Go Go.RowKit
abbrev RT : TypeId := 173
structure RQ where
 at' : Nat
 e : Int
 bad : Int
 l : List Node
def RQ.fail (q : RQ) (e p : Int) : RQ := if q.e = 0 then { q with e := e, bad := p } else q
def RQ.rs (S : List UInt8) (q : RQ) : RS := ⟨S.drop q.at', q.at', q.l⟩
structure RAt (B b : Nat) (trs : List (Value × List Node)) (S : List UInt8) (q : RQ) (w : World) (vl : Value) : Prop where
 blk : Blk w b #[sv S, .int .i64 q.at', .int .i64 q.e, .int .i64 q.bad, vl] RT
 le : B ≤ b
 nodes : Sl w B 49 3 vl q.l.length (nodeCells q.l)
 small : S.length ≤ 549755813888
 at_le : q.at' ≤ S.length
 kept : ∀ t ∈ trs, Sl w B 49 3 t.1 t.2.length (nodeCells t.2) ∧ Ahead 3 vl t.1
theorem RAt.keeps {B b : Nat} {trs : List (Value × List Node)} {S : List UInt8} {q : RQ} {w w' : World} {vl : Value} (h : RAt B b trs S q w vl) (hk : Keeps Non w w') : RAt B b trs S q w' vl :=
 ⟨h.blk.keeps hk (fun h => h), h.le, h.nodes.kp (Kp.of_keeps (B := B) (Ts := []) hk) (.inl (by simp)), h.small, h.at_le, fun t ht => ⟨(h.kept t ht).1.kp (Kp.of_keeps (B := B) (Ts := []) hk) (.inl (by simp)), (h.kept t ht).2⟩⟩
theorem RAt.kpSet {B b : Nat} {trs : List (Value × List Node)} {S : List UInt8} {q : RQ} {w : World} {vl : Value} (h : RAt B b trs S q w vl) (j : Nat) (v : Value) : Kp B [RT] w (w.setCell ⟨b, j, none⟩ v) := (Kp.refl _ _ _).set h.blk (.inr ⟨h.le, by simp⟩) _ _
theorem RQ.fail_bad {q : RQ} (h : q.e ≠ 0) (e p : Int) : q.fail e p = q := by rw [RQ.fail, if_neg h]
def RQ.add (q : RQ) (n : Node) : RQ := { q with l := q.l ++ [n] }
def SameE (q q' : RQ) : Prop := q'.e = q.e ∧ q'.bad = q.bad
def Res (S : List UInt8) (r : RE RS) (q : RQ) : Prop :=
 match r with
 | .error x => q.e = x.1 ∧ q.bad = x.2 ∧ x.1 ≠ 0
 | .ok ρ => q.e = 0 ∧ q.rs S = ρ ∧ q.at' ≤ S.length
theorem Res.error {S : List UInt8} {x : Int × Int} {q q' : RQ} (h : SameE q q') (h1 : q.e = x.1) (h2 : q.bad = x.2) (h3 : x.1 ≠ 0) : Res S (.error x) q' := ⟨h.1.trans h1, h.2.trans h2, h3⟩
theorem infoWant : (Tryz.prog.info? 113).map (fun i => (i.zero, i.size, i.bytes)) = some (some (.agg #[.int .i64 0, .nilFunc]), 2, 16) := by kernel_rfl
theorem JobAt.one {w : World} {b : Nat} {j : Job} {f : Value} (h : JobAt w b j f) : f.oneCell' = true := by
 cases j with
 | word may act => obtain ⟨_, _, _, _, rfl, _⟩ := h; rfl
 | leads => rw [show f = _ from h]; rfl
 | name => rw [show f = _ from h]; rfl
 | keep k => obtain ⟨_, _, rfl, _⟩ := h; rfl
 | cpath => rw [show f = _ from h]; rfl
 | cref => rw [show f = _ from h]; rfl
 | csum => rw [show f = _ from h]; rfl
theorem Sl.own_lt {w : World} {B : Nat} {E : TypeId} {size : Nat} {v : Value} {n : Nat} {xs : List Value} (h : Sl w B E size v n xs) {k : Nat} (hk : v.ownBlock = some k) : k < w.heap.size := by
 obtain ⟨-, ⟨rfl, -⟩ | ⟨b', o', c', cc, rfl, -, h2, -⟩⟩ := h
 ·cases hk
 ·cases hk; exact h2.lt
theorem wantCells_at (us : List (Job × Value)) (k : Nat) (h : k < us.length) : (wantCells us)[k * 2]? = some (.int .i64 (us[k].1.most : Nat)) ∧ (wantCells us)[k * 2 + 1]? = some us[k].2 := by
 have e : wantCells us = wantCells (us.take k) ++ (wantC us[k] ++ wantCells (us.drop (k + 1))) := by
  have e1 : us = us.take k ++ (us[k] :: us.drop (k + 1)) := by rw [← List.drop_eq_getElem_cons h, List.take_append_drop]
  have e2 : wantCells (us[k] :: us.drop (k + 1)) = wantC us[k] ++ wantCells (us.drop (k + 1)) := rfl
  rw [← e2, ← wantCells_append, ← e1]
 have hl : (wantCells (us.take k)).length = k * 2 := by rw [wantCells_length, List.length_take]; omega
 refine ⟨?_, ?_⟩ <;> rw [e, List.getElem?_append_right (by omega), hl]
 ·simp [wantC]
 ·rw [show k * 2 + 1 - k * 2 = 1 by omega]; simp [wantC]
theorem Kp.of_drew {B : Nat} {Ts : List TypeId} {a w : World} (h : Kp B Ts a.drew w) : Kp B Ts a w := ⟨h.os, h.tape, h.output, h.size, h.block⟩
theorem Keeps.of_drew {S : Nat → Prop} {a w : World} (h : Keeps S a.drew w) : Keeps S a w := ⟨h.os, h.tape, h.output, h.size, h.block⟩
theorem plan_step {B b : Nat} {tail : PT} {ts : List (Job × Value)} {σ : PSt} {w w1 : World} {vr vt vl va : Value} (H : PAt B b tail ts σ w vr vt vl va) (j : Job) (f : Value) (hj : JobAt w b j f) (C : Array Value) (ao : Option Addr) (cc n : Nat) (hn : n = ts.length + 1)
 (hs : Sl w1 B 113 2 (.slice ao n cc) n (wantCells ts ++ [.int .i64 (j.most : Nat), f])) (hk : Kp B [113] (w.alloc (.cells C 113)) w1) :
 PAt B b tail (ts ++ [(j, f)]) σ (w1.setCell ⟨b, 4, none⟩ (.slice ao n cc)) vr (.slice ao n cc) vl va ∧ Kp B [113, TB] w (w1.setCell ⟨b, 4, none⟩ (.slice ao n cc)) := by
 subst hn
 have hk0 : Kp B [113] w w1 := ((Kp.refl _ _ _).alloc _).trans hk
 have b1 := H.blk.kp hk0 (.inr (by decide))
 have k2 : Kp B [TB] w1 (w1.setCell ⟨b, 4, none⟩ (.slice ao (ts.length + 1) cc)) := (Kp.refl _ _ _).set b1 (.inr ⟨H.le, by simp⟩) _ _
 have b2 := b1.set 4 (.slice ao (ts.length + 1) cc)
 rw [(pcells_set ..).2.2.2.2.1] at b2
 have sub : ∀ T ∈ ([113] : List TypeId), T ∈ paTs := by intro T hT; simp only [List.mem_singleton] at hT; subst hT; simp
 have subB : ∀ T ∈ ([TB] : List TypeId), T ∈ paTs := by intro T hT; simp only [List.mem_singleton] at hT; subst hT; simp
 refine ⟨⟨b2, H.le, (H.rest.kp hk0 (.inl (by decide))).kp k2 (.inl (by decide)), ?_, (H.nodes.kp hk0 (.inl (by decide))).kp k2 (.inl (by decide)), (H.above.kp hk0 (.inl (by decide))).kp k2 (.inl (by decide)), ?_, fun t ht => ⟨((H.kept t ht).1.kp hk0 (.inl (by decide))).kp k2 (.inl (by decide)), (H.kept t ht).2⟩⟩, (hk0.mono (.inr ⟨Nat.le_refl _, by simp⟩)).trans (k2.mono (.inr ⟨Nat.le_refl _, by simp⟩))⟩
 ·rw [List.length_append, wantCells_append]
  exact hs.kp k2 (.inl (by decide))
 ·intro t ht
  rcases List.mem_append.1 ht with ht | ht
  ·exact ((H.jobs t ht).kp hk0 sub).kp k2 subB
  ·obtain rfl := List.mem_singleton.1 ht
   exact (hj.kp hk0 sub).kp k2 subB
set_option maxHeartbeats 1600000 in
set_option maxRecDepth 100000 in
theorem plan_any {B b : Nat} {tail : PT} {ts : List (Job × Value)} {σ : PSt} {w : World} {vr vt vl va : Value} (h : PAt B b tail ts σ w vr vt vl va) (us : List (Job × Value)) (bl ol cp : Nat) (hv : Sl w 0 113 2 (.slice (some ⟨bl, ol, none⟩) us.length cp) us.length (wantCells us)) (hnb : vt.ownBlock ≠ some bl)
 (hj : ∀ t ∈ us, JobAt w b t.1 t.2) (hl : ts.length + us.length ≤ 1099511627776) :
 Calls Tryz.prog 45 #[.pointer (some ⟨b, 0, none⟩), .slice (some ⟨bl, ol, none⟩) us.length cp] w fun ed w' => ed = .returned (.tuple #[]) ∧ PA B b tail (ts ++ us.reverse) σ w' ∧ Kp B [113, TB] w w' := by
 obtain ⟨a0, c0, hsh, hcl, hcm⟩ := hv.shape
 cases hsh
 unfold maxLen at hcm
 have HV := Lib.hid hv
 have H := Lib.hid h
 have HJ := Lib.hid hj
 have HNB := Lib.hid hnb
 clear hv h hj hnb
 go_enter Tryz.func45, Tryz.ntmps45
 go_wp2_with fail
 go_loopg [7] us.length (fun gk iv wr => ∃ (k : Nat) (vt' : Value), gk = us.length - k ∧ k ≤ us.length ∧ iv = .int .i64 k ∧ Hid (PAt B b tail (ts ++ us.reverse.take k) σ wr vr vt' vl va) ∧ Hid (Kp B [113, TB] w wr) ∧ Hid (vt'.ownBlock ≠ some bl) ∧ Hid (Sl wr 0 113 2 (.slice (some ⟨bl, ol, none⟩) us.length cp) us.length (wantCells us)))
 case atStart => exact ⟨0, vt, rfl, Nat.zero_le _, rfl, by show PAt _ _ _ _ _ _ _ _ _ _; simpa using H.out, Kp.refl _ _ _, HNB, HV⟩
 case round =>
  clear H HNB HV
  obtain ⟨k, vt', rfl, hk, rfl, H, HK, HNB, HV⟩ := hrel
  by_cases hlt : k < us.length
  ·obtain ⟨i0, hi, hz0, hz1, hz2⟩ := info_parts infoWant
   have c4 : wr.cell? ⟨b, 4, none⟩ = some vt' := (H.out.blk.cell 4).trans (pcells_get ..).2.2.2.2.1
   have f4 := H.out.blk.free 4
   obtain ⟨m, hm⟩ : ∃ m, us.length = m + k + 1 := ⟨us.length - 1 - k, by omega⟩
   have hml : m < us.length := by omega
   obtain ⟨b', o', c', hsh, -, -, -, hltb, hcc, -⟩ := HV.out.pos (by omega)
   cases hsh
   have hat := wantCells_at us m hml
   have d0 : wr.cell? ⟨bl, ol + m * 2, none⟩ = some (.int .i64 (us[m].1.most : Nat)) := (hcc _ (by omega)).trans hat.1
   have d1 : wr.cell? ⟨bl, ol + m * 2 + 1, none⟩ = some us[m].2 := (hcc _ (by omega)).trans hat.2
   have hone := (HJ.out us[m] (List.getElem_mem hml)).one
   have hrev : us.reverse.take (k + 1) = us.reverse.take k ++ [us[m]] := by
    rw [List.take_succ_eq_append_getElem (by simp; omega)]
    congr 2
    rw [List.getElem_reverse]
    congr 1
    omega
   have HREV := Lib.hid hrev
   have HUM : Hid (us[m] ∈ us) := List.getElem_mem hml
   generalize us[m] = u at *
   obtain ⟨j, f⟩ := u
   simp only at d0 d1 hone
   have hlen : (ts ++ us.reverse.take k).length = ts.length + k := by simp; omega
   have hsl := H.out.todo
   have hblt := H.out.lt
   have hbw := H.out.le
   have e1 : IntKind.i64.wrap ((us.length : Int) - 1) = (us.length : Int) - 1 := IntWalk.i64_in _ (by omega)
   have e2 : IntKind.i64.wrap ((us.length : Int) - 1 - (k : Int)) = (m : Int) := by rw [IntWalk.i64_in _ (by omega)]; omega
   have e3 : (0 : Int) ≤ (m : Int) := by omega
   have e4 : (m : Int) < (us.length : Int) := by omega
   have HM := Lib.hid hm
   have HLN := Lib.hid hlen
   have hl2 : (ts ++ us.reverse.take k).length ≤ 1099511627776 := by omega
   clear hat hcc hrev hm hlen
   go_upto_region 3 with (fail)
   have HJF : Hid (JobAt wr b j f) := (HJ.out _ HUM.out).kp HK.out (by intro T hT; simp only [List.mem_cons, List.not_mem_nil, or_false] at hT; rcases hT with rfl | rfl <;> simp)
   go_region_law (refine step_append_own2 rfl _ _ 103 103 rfl 113 i0 _ 2 16 Tryz.underlying103 hi hz0 hz1 hz2 rfl B vt' _ _ rfl _ rfl 1 [.int .i64 (j.most : Nat), f] (by simp; omega) (by first | exact hsl.alloc _ | exact hsl) (by first | exact Src.ofSl Tryz.underlying103 (Sl.of_new wr 0 (Nat.zero_le _) 113 2 1 [.int .i64 (j.most : Nat), f] rfl (by simp [maxLen])) (by intro u hu; simp only [List.mem_cons, List.not_mem_nil, or_false] at hu; rcases hu with rfl | rfl; rfl; exact hone)) (by unfold maxLen; omega) (by omega) ?_; intro ao cc w1 hs1 hk1 hkk1 hb1; have HK1 := Lib.hid (Kp.of_drew hk1); have HKK1 := Lib.hid (Keeps.of_drew hkk1); have HS1 := Lib.hid hs1; have HB1 := Lib.hid hb1; have B1 := Lib.hid ((H.out.blk.alloc (.cells #[.int .i64 (j.most : Nat), f] 113)).kp HK1.out (.inr (by decide))); have c41 : w1.cell? ⟨b, 4, none⟩ = some vt' := (B1.out.cell 4).trans (pcells_get ..).2.2.2.2.1; have f41 := B1.out.free 4; clear hs1 hk1 hkk1 hb1)
   all_goals (
    have hst := plan_step H.out j f HJF.out _ ao cc (ts.length + k + 1) (by rw [HLN.out]) (by have h1 := HS1.out; rw [HLN.out] at h1; exact h1) HK1.out
    have HST := Lib.hid hst
    clear hst
    go_wp2_with fail
    go_roundg (us.length - (k + 1)))
   all_goals first
    | (case measure => omega)
    | (case rel =>
        refine ⟨k + 1, _, rfl, by omega, by go_num, by rw [HREV.out, ← List.append_assoc]; exact HST.out.1, HK.out.trans HST.out.2, ?_, ?_⟩
        ·show ¬ _
         have hb1 := HB1.out
         rw [HLN.out] at hb1
         rcases hb1 with e | e
         ·rw [e]; exact HNB.out
         ·rw [e]; intro e2; simp at e2; omega
        ·refine (HV.out.keep fun b' c' ho _ hb => ?_)
         cases ho
         have h1 : Blk w1 bl c' 113 := (hb.alloc _).keeps HKK1.out (fun e => HNB.out e)
         exact h1.set_ne _ _ (fun e => absurd (h1.inj (by simp only at e; subst e; exact B1.out)).2 (by decide)))
  ·have hkl : k = us.length := by omega
   have HF : Hid (us.reverse.take k = us.reverse) := List.take_of_length_le (by simp; omega)
   clear hkl
   go_wp2_with fail
   go_end0
   refine ⟨rfl, ?_, HK.out⟩
   have := H.out
   rw [HF.out] at this
   exact ⟨_, _, _, _, this⟩
def RQ.clear (q : RQ) : RQ := { q with l := [] }
theorem dataB_len {k : Int} {s : List UInt8} (h : dataB k s = true) : s.length ≤ 100 := by
 unfold dataB at h
 split at h
 ·simp at h; omega
 ·split at h
  ·simp at h; rw [h]; simp
  ·split at h
   ·simpa using h
   ·cases h
theorem join_len {p s : List UInt8} (h : nameB s = true) : (joinP p s).length ≤ p.length + 49 := by
 have := name_len h
 unfold joinP
 split
 ·omega
 ·simp; omega
theorem VF.small {d : Nat} {p last : List UInt8} {r : List Node} (h : VF d p last r) : ∀ n ∈ r, n.path.length ≤ p.length + 49 * d ∧ n.data.length ≤ 100 := by
 induction h with
 | nil => intro n hn; cases hn
 | leaf d p last s y r h1 h2 h3 h4 h5 h6 ih =>
   intro n hn
   rcases List.mem_cons.1 hn with rfl | hn
   ·have := join_len (p := p) h2
    rw [h1]
    exact ⟨by omega, dataB_len h5⟩
   ·exact ih n hn
 | dir d p last s y sub r h1 h2 h3 h4 h5 h6 h7 ih1 ih2 =>
   intro n hn
   have hj := join_len (p := p) h2
   rcases List.mem_cons.1 hn with rfl | hn
   ·rw [h1, h5]
    exact ⟨by omega, Nat.zero_le _⟩
   ·rcases List.mem_append.1 hn with hn | hn
    ·have := ih1 n hn
     exact ⟨by omega, this.2⟩
    ·exact ih2 n hn
theorem wrong_small {l : List Node} (h : wrongL l = -1) : l.length ≤ 30 ∧ (∀ n ∈ l, n.path.length ≤ 245 ∧ n.data.length ≤ 100) ∧ (packP l).length ≤ 30000 := by
 obtain ⟨x, r, rfl, hv, hl⟩ := VN_of_wrong h
 have h1 : ∀ n ∈ x :: r, n.path.length ≤ 245 ∧ n.data.length ≤ 100 := by
  intro n hn
  obtain ⟨hp, ⟨-, rfl, hd⟩ | ⟨-, hd, hf⟩⟩ := hv
  ·simp only [List.mem_singleton] at hn
   subst hn
   rw [hp]
   exact ⟨Nat.zero_le _, dataB_len hd⟩
  ·rcases List.mem_cons.1 hn with rfl | hn
   ·rw [hp, hd]
    exact ⟨Nat.zero_le _, Nat.zero_le _⟩
   ·have := hf.small n hn
    simp at this
    omega
 refine ⟨hl, h1, ?_⟩
 have h2 := packP_len (x :: r)
 have h3 : ∀ l : List Node, (∀ n ∈ l, n.path.length ≤ 245 ∧ n.data.length ≤ 100) → (l.map fun x => x.path.length + x.data.length).sum ≤ l.length * 345 := by
  intro l
  induction l with
  | nil => intro _; simp
  | cons x r ih =>
    intro hx
    have h3 := ih fun y hy => hx y (List.mem_cons_of_mem _ hy)
    have h4 := hx x (List.mem_cons_self ..)
    simp only [List.map_cons, List.sum_cons, List.length_cons, Nat.succ_mul]
    omega
 have h4 := h3 _ h1
 generalize (List.map (fun x => x.path.length + x.data.length) (x :: r)).sum = A at *
 generalize (x :: r).length = B at *
 generalize (packP (x :: r)).length = C at *
 omega
def RQ.failIf (q : RQ) (e p : Int) : RQ := if e = 0 then q else q.fail e p
end Go.Proofs.YtdkogijdfgfpeaaGreatDoor

/- narref.reader: fail, next. -/
import Derived.Test.YtdkogijdfgfpeaaGreatDoorMRead
import Derived.Test.YtdkogijdfgfpeaaGreatDoorMRefA
import Derived.Test.YtdkogijdfgfpeaaGreatDoorMPMem
import Derived.Test.YtdkogijdfgfpeaaGreatDoorMPInv
import Derived.Deep.QuietTactic
import Derived.Test.YtdkogijdfgfpeaaGreatDoorMPack
import Derived.Test.YtdkogijdfgfpeaaGreatDoorMImpG
import Derived.Deep.RegionLaw
import Derived.Test.YtdkogijdfgfpeaaGreatDoorMClosP
set_option linter.unusedVariables false
namespace Go.Proofs.YtdkogijdfgfpeaaGreatDoor
open Go Go.RowKit
abbrev RT : TypeId := 173
structure RQ where
 at' : Nat
 e : Int
 bad : Int
 l : List Node
def RQ.fail (q : RQ) (e p : Int) : RQ := if q.e = 0 then { q with e := e, bad := p } else q
def RQ.rs (S : List UInt8) (q : RQ) : RS := ⟨S.drop q.at', q.at', q.l⟩
structure RAt (B b : Nat) (trs : List (Value × List Node)) (S : List UInt8) (q : RQ) (w : World) (vl : Value) : Prop where
 blk : Blk w b #[sv S, .int .i64 q.at', .int .i64 q.e, .int .i64 q.bad, vl] RT
 le : B ≤ b
 nodes : Sl w B 49 3 vl q.l.length (nodeCells q.l)
 small : S.length ≤ 549755813888
 at_le : q.at' ≤ S.length
 kept : ∀ t ∈ trs, Sl w B 49 3 t.1 t.2.length (nodeCells t.2) ∧ Ahead 3 vl t.1
theorem RAt.keeps {B b : Nat} {trs : List (Value × List Node)} {S : List UInt8} {q : RQ} {w w' : World} {vl : Value} (h : RAt B b trs S q w vl) (hk : Keeps Non w w') : RAt B b trs S q w' vl :=
 ⟨h.blk.keeps hk (fun h => h), h.le, h.nodes.kp (Kp.of_keeps (B := B) (Ts := []) hk) (.inl (by simp)), h.small, h.at_le, fun t ht => ⟨(h.kept t ht).1.kp (Kp.of_keeps (B := B) (Ts := []) hk) (.inl (by simp)), (h.kept t ht).2⟩⟩
theorem RAt.kpSet {B b : Nat} {trs : List (Value × List Node)} {S : List UInt8} {q : RQ} {w : World} {vl : Value} (h : RAt B b trs S q w vl) (j : Nat) (v : Value) : Kp B [RT] w (w.setCell ⟨b, j, none⟩ v) := (Kp.refl _ _ _).set h.blk (.inr ⟨h.le, by simp⟩) _ _
theorem RQ.fail_bad {q : RQ} (h : q.e ≠ 0) (e p : Int) : q.fail e p = q := by rw [RQ.fail, if_neg h]
def RQ.add (q : RQ) (n : Node) : RQ := { q with l := q.l ++ [n] }
def SameE (q q' : RQ) : Prop := q'.e = q.e ∧ q'.bad = q.bad
def Res (S : List UInt8) (r : RE RS) (q : RQ) : Prop :=
 match r with
 | .error x => q.e = x.1 ∧ q.bad = x.2 ∧ x.1 ≠ 0
 | .ok ρ => q.e = 0 ∧ q.rs S = ρ ∧ q.at' ≤ S.length
theorem Res.error {S : List UInt8} {x : Int × Int} {q q' : RQ} (h : SameE q q') (h1 : q.e = x.1) (h2 : q.bad = x.2) (h3 : x.1 ≠ 0) : Res S (.error x) q' := ⟨h.1.trans h1, h.2.trans h2, h3⟩
theorem infoWant : (Tryz.prog.info? 113).map (fun i => (i.zero, i.size, i.bytes)) = some (some (.agg #[.int .i64 0, .nilFunc]), 2, 16) := by kernel_rfl
theorem JobAt.one {w : World} {b : Nat} {j : Job} {f : Value} (h : JobAt w b j f) : f.oneCell' = true := by
 cases j with
 | word may act => obtain ⟨_, _, _, _, rfl, _⟩ := h; rfl
 | leads => rw [show f = _ from h]; rfl
 | name => rw [show f = _ from h]; rfl
 | keep k => obtain ⟨_, _, rfl, _⟩ := h; rfl
 | cpath => rw [show f = _ from h]; rfl
 | cref => rw [show f = _ from h]; rfl
 | csum => rw [show f = _ from h]; rfl
theorem Sl.own_lt {w : World} {B : Nat} {E : TypeId} {size : Nat} {v : Value} {n : Nat} {xs : List Value} (h : Sl w B E size v n xs) {k : Nat} (hk : v.ownBlock = some k) : k < w.heap.size := by
 obtain ⟨-, ⟨rfl, -⟩ | ⟨b', o', c', cc, rfl, -, h2, -⟩⟩ := h
 ·cases hk
 ·cases hk; exact h2.lt
theorem wantCells_at (us : List (Job × Value)) (k : Nat) (h : k < us.length) : (wantCells us)[k * 2]? = some (.int .i64 (us[k].1.most : Nat)) ∧ (wantCells us)[k * 2 + 1]? = some us[k].2 := by
 have e : wantCells us = wantCells (us.take k) ++ (wantC us[k] ++ wantCells (us.drop (k + 1))) := by
  have e1 : us = us.take k ++ (us[k] :: us.drop (k + 1)) := by rw [← List.drop_eq_getElem_cons h, List.take_append_drop]
  have e2 : wantCells (us[k] :: us.drop (k + 1)) = wantC us[k] ++ wantCells (us.drop (k + 1)) := rfl
  rw [← e2, ← wantCells_append, ← e1]
 have hl : (wantCells (us.take k)).length = k * 2 := by rw [wantCells_length, List.length_take]; omega
 refine ⟨?_, ?_⟩ <;> rw [e, List.getElem?_append_right (by omega), hl]
 ·simp [wantC]
 ·rw [show k * 2 + 1 - k * 2 = 1 by omega]; simp [wantC]
theorem Kp.of_drew {B : Nat} {Ts : List TypeId} {a w : World} (h : Kp B Ts a.drew w) : Kp B Ts a w := ⟨h.os, h.tape, h.output, h.size, h.block⟩
theorem Keeps.of_drew {S : Nat → Prop} {a w : World} (h : Keeps S a.drew w) : Keeps S a w := ⟨h.os, h.tape, h.output, h.size, h.block⟩
theorem plan_step {B b : Nat} {tail : PT} {ts : List (Job × Value)} {σ : PSt} {w w1 : World} {vr vt vl va : Value} (H : PAt B b tail ts σ w vr vt vl va) (j : Job) (f : Value) (hj : JobAt w b j f) (C : Array Value) (ao : Option Addr) (cc n : Nat) (hn : n = ts.length + 1)
 (hs : Sl w1 B 113 2 (.slice ao n cc) n (wantCells ts ++ [.int .i64 (j.most : Nat), f])) (hk : Kp B [113] (w.alloc (.cells C 113)) w1) :
 PAt B b tail (ts ++ [(j, f)]) σ (w1.setCell ⟨b, 4, none⟩ (.slice ao n cc)) vr (.slice ao n cc) vl va ∧ Kp B [113, TB] w (w1.setCell ⟨b, 4, none⟩ (.slice ao n cc)) := by
 subst hn
 have hk0 : Kp B [113] w w1 := ((Kp.refl _ _ _).alloc _).trans hk
 have b1 := H.blk.kp hk0 (.inr (by decide))
 have k2 : Kp B [TB] w1 (w1.setCell ⟨b, 4, none⟩ (.slice ao (ts.length + 1) cc)) := (Kp.refl _ _ _).set b1 (.inr ⟨H.le, by simp⟩) _ _
 have b2 := b1.set 4 (.slice ao (ts.length + 1) cc)
 rw [(pcells_set ..).2.2.2.2.1] at b2
 have sub : ∀ T ∈ ([113] : List TypeId), T ∈ paTs := by intro T hT; simp only [List.mem_singleton] at hT; subst hT; simp
 have subB : ∀ T ∈ ([TB] : List TypeId), T ∈ paTs := by intro T hT; simp only [List.mem_singleton] at hT; subst hT; simp
 refine ⟨⟨b2, H.le, (H.rest.kp hk0 (.inl (by decide))).kp k2 (.inl (by decide)), ?_, (H.nodes.kp hk0 (.inl (by decide))).kp k2 (.inl (by decide)), (H.above.kp hk0 (.inl (by decide))).kp k2 (.inl (by decide)), ?_, fun t ht => ⟨((H.kept t ht).1.kp hk0 (.inl (by decide))).kp k2 (.inl (by decide)), (H.kept t ht).2⟩⟩, (hk0.mono (.inr ⟨Nat.le_refl _, by simp⟩)).trans (k2.mono (.inr ⟨Nat.le_refl _, by simp⟩))⟩
 ·rw [List.length_append, wantCells_append]
  exact hs.kp k2 (.inl (by decide))
 ·intro t ht
  rcases List.mem_append.1 ht with ht | ht
  ·exact ((H.jobs t ht).kp hk0 sub).kp k2 subB
  ·obtain rfl := List.mem_singleton.1 ht
   exact (hj.kp hk0 sub).kp k2 subB
set_option maxHeartbeats 1600000 in
set_option maxRecDepth 100000 in
theorem plan_any {B b : Nat} {tail : PT} {ts : List (Job × Value)} {σ : PSt} {w : World} {vr vt vl va : Value} (h : PAt B b tail ts σ w vr vt vl va) (us : List (Job × Value)) (bl ol cp : Nat) (hv : Sl w 0 113 2 (.slice (some ⟨bl, ol, none⟩) us.length cp) us.length (wantCells us)) (hnb : vt.ownBlock ≠ some bl)
 (hj : ∀ t ∈ us, JobAt w b t.1 t.2) (hl : ts.length + us.length ≤ 1099511627776) :
 Calls Tryz.prog 45 #[.pointer (some ⟨b, 0, none⟩), .slice (some ⟨bl, ol, none⟩) us.length cp] w fun ed w' => ed = .returned (.tuple #[]) ∧ PA B b tail (ts ++ us.reverse) σ w' ∧ Kp B [113, TB] w w' := by
 obtain ⟨a0, c0, hsh, hcl, hcm⟩ := hv.shape
 cases hsh
 unfold maxLen at hcm
 have HV := Lib.hid hv
 have H := Lib.hid h
 have HJ := Lib.hid hj
 have HNB := Lib.hid hnb
 clear hv h hj hnb
 go_enter Tryz.func45, Tryz.ntmps45
 go_wp2_with fail
 go_loopg [7] us.length (fun gk iv wr => ∃ (k : Nat) (vt' : Value), gk = us.length - k ∧ k ≤ us.length ∧ iv = .int .i64 k ∧ Hid (PAt B b tail (ts ++ us.reverse.take k) σ wr vr vt' vl va) ∧ Hid (Kp B [113, TB] w wr) ∧ Hid (vt'.ownBlock ≠ some bl) ∧ Hid (Sl wr 0 113 2 (.slice (some ⟨bl, ol, none⟩) us.length cp) us.length (wantCells us)))
 case atStart => exact ⟨0, vt, rfl, Nat.zero_le _, rfl, by show PAt _ _ _ _ _ _ _ _ _ _; simpa using H.out, Kp.refl _ _ _, HNB, HV⟩
 case round =>
  clear H HNB HV
  obtain ⟨k, vt', rfl, hk, rfl, H, HK, HNB, HV⟩ := hrel
  by_cases hlt : k < us.length
  ·obtain ⟨i0, hi, hz0, hz1, hz2⟩ := info_parts infoWant
   have c4 : wr.cell? ⟨b, 4, none⟩ = some vt' := (H.out.blk.cell 4).trans (pcells_get ..).2.2.2.2.1
   have f4 := H.out.blk.free 4
   obtain ⟨m, hm⟩ : ∃ m, us.length = m + k + 1 := ⟨us.length - 1 - k, by omega⟩
   have hml : m < us.length := by omega
   obtain ⟨b', o', c', hsh, -, -, -, hltb, hcc, -⟩ := HV.out.pos (by omega)
   cases hsh
   have hat := wantCells_at us m hml
   have d0 : wr.cell? ⟨bl, ol + m * 2, none⟩ = some (.int .i64 (us[m].1.most : Nat)) := (hcc _ (by omega)).trans hat.1
   have d1 : wr.cell? ⟨bl, ol + m * 2 + 1, none⟩ = some us[m].2 := (hcc _ (by omega)).trans hat.2
   have hone := (HJ.out us[m] (List.getElem_mem hml)).one
   have hrev : us.reverse.take (k + 1) = us.reverse.take k ++ [us[m]] := by
    rw [List.take_succ_eq_append_getElem (by simp; omega)]
    congr 2
    rw [List.getElem_reverse]
    congr 1
    omega
   have HREV := Lib.hid hrev
   have HUM : Hid (us[m] ∈ us) := List.getElem_mem hml
   generalize us[m] = u at *
   obtain ⟨j, f⟩ := u
   simp only at d0 d1 hone
   have hlen : (ts ++ us.reverse.take k).length = ts.length + k := by simp; omega
   have hsl := H.out.todo
   have hblt := H.out.lt
   have hbw := H.out.le
   have e1 : IntKind.i64.wrap ((us.length : Int) - 1) = (us.length : Int) - 1 := IntWalk.i64_in _ (by omega)
   have e2 : IntKind.i64.wrap ((us.length : Int) - 1 - (k : Int)) = (m : Int) := by rw [IntWalk.i64_in _ (by omega)]; omega
   have e3 : (0 : Int) ≤ (m : Int) := by omega
   have e4 : (m : Int) < (us.length : Int) := by omega
   have HM := Lib.hid hm
   have HLN := Lib.hid hlen
   have hl2 : (ts ++ us.reverse.take k).length ≤ 1099511627776 := by omega
   clear hat hcc hrev hm hlen
   go_upto_region 3 with (fail)
   have HJF : Hid (JobAt wr b j f) := (HJ.out _ HUM.out).kp HK.out (by intro T hT; simp only [List.mem_cons, List.not_mem_nil, or_false] at hT; rcases hT with rfl | rfl <;> simp)
   go_region_law (refine step_append_own2 rfl _ _ 103 103 rfl 113 i0 _ 2 16 Tryz.underlying103 hi hz0 hz1 hz2 rfl B vt' _ _ rfl _ rfl 1 [.int .i64 (j.most : Nat), f] (by simp; omega) (by first | exact hsl.alloc _ | exact hsl) (by first | exact Src.ofSl Tryz.underlying103 (Sl.of_new wr 0 (Nat.zero_le _) 113 2 1 [.int .i64 (j.most : Nat), f] rfl (by simp [maxLen])) (by intro u hu; simp only [List.mem_cons, List.not_mem_nil, or_false] at hu; rcases hu with rfl | rfl; rfl; exact hone)) (by unfold maxLen; omega) (by omega) ?_; intro ao cc w1 hs1 hk1 hkk1 hb1; have HK1 := Lib.hid (Kp.of_drew hk1); have HKK1 := Lib.hid (Keeps.of_drew hkk1); have HS1 := Lib.hid hs1; have HB1 := Lib.hid hb1; have B1 := Lib.hid ((H.out.blk.alloc (.cells #[.int .i64 (j.most : Nat), f] 113)).kp HK1.out (.inr (by decide))); have c41 : w1.cell? ⟨b, 4, none⟩ = some vt' := (B1.out.cell 4).trans (pcells_get ..).2.2.2.2.1; have f41 := B1.out.free 4; clear hs1 hk1 hkk1 hb1)
   all_goals (
    have hst := plan_step H.out j f HJF.out _ ao cc (ts.length + k + 1) (by rw [HLN.out]) (by have h1 := HS1.out; rw [HLN.out] at h1; exact h1) HK1.out
    have HST := Lib.hid hst
    clear hst
    go_wp2_with fail
    go_roundg (us.length - (k + 1)))
   all_goals first
    | (case measure => omega)
    | (case rel =>
        refine ⟨k + 1, _, rfl, by omega, by go_num, by rw [HREV.out, ← List.append_assoc]; exact HST.out.1, HK.out.trans HST.out.2, ?_, ?_⟩
        ·show ¬ _
         have hb1 := HB1.out
         rw [HLN.out] at hb1
         rcases hb1 with e | e
         ·rw [e]; exact HNB.out
         ·rw [e]; intro e2; simp at e2; omega
        ·refine (HV.out.keep fun b' c' ho _ hb => ?_)
         cases ho
         have h1 : Blk w1 bl c' 113 := (hb.alloc _).keeps HKK1.out (fun e => HNB.out e)
         exact h1.set_ne _ _ (fun e => absurd (h1.inj (by simp only at e; subst e; exact B1.out)).2 (by decide)))
  ·have hkl : k = us.length := by omega
   have HF : Hid (us.reverse.take k = us.reverse) := List.take_of_length_le (by simp; omega)
   clear hkl
   go_wp2_with fail
   go_end0
   refine ⟨rfl, ?_, HK.out⟩
   have := H.out
   rw [HF.out] at this
   exact ⟨_, _, _, _, this⟩
def RQ.clear (q : RQ) : RQ := { q with l := [] }
theorem dataB_len {k : Int} {s : List UInt8} (h : dataB k s = true) : s.length ≤ 100 := by
 unfold dataB at h
 split at h
 ·simp at h; omega
 ·split at h
  ·simp at h; rw [h]; simp
  ·split at h
   ·simpa using h
   ·cases h
theorem join_len {p s : List UInt8} (h : nameB s = true) : (joinP p s).length ≤ p.length + 49 := by
 have := name_len h
 unfold joinP
 split
 ·omega
 ·simp; omega
theorem VF.small {d : Nat} {p last : List UInt8} {r : List Node} (h : VF d p last r) : ∀ n ∈ r, n.path.length ≤ p.length + 49 * d ∧ n.data.length ≤ 100 := by
 induction h with
 | nil => intro n hn; cases hn
 | leaf d p last s y r h1 h2 h3 h4 h5 h6 ih =>
   intro n hn
   rcases List.mem_cons.1 hn with rfl | hn
   ·have := join_len (p := p) h2
    rw [h1]
    exact ⟨by omega, dataB_len h5⟩
   ·exact ih n hn
 | dir d p last s y sub r h1 h2 h3 h4 h5 h6 h7 ih1 ih2 =>
   intro n hn
   have hj := join_len (p := p) h2
   rcases List.mem_cons.1 hn with rfl | hn
   ·rw [h1, h5]
    exact ⟨by omega, Nat.zero_le _⟩
   ·rcases List.mem_append.1 hn with hn | hn
    ·have := ih1 n hn
     exact ⟨by omega, this.2⟩
    ·exact ih2 n hn
theorem wrong_small {l : List Node} (h : wrongL l = -1) : l.length ≤ 30 ∧ (∀ n ∈ l, n.path.length ≤ 245 ∧ n.data.length ≤ 100) ∧ (packP l).length ≤ 30000 := by
 obtain ⟨x, r, rfl, hv, hl⟩ := VN_of_wrong h
 have h1 : ∀ n ∈ x :: r, n.path.length ≤ 245 ∧ n.data.length ≤ 100 := by
  intro n hn
  obtain ⟨hp, ⟨-, rfl, hd⟩ | ⟨-, hd, hf⟩⟩ := hv
  ·simp only [List.mem_singleton] at hn
   subst hn
   rw [hp]
   exact ⟨Nat.zero_le _, dataB_len hd⟩
  ·rcases List.mem_cons.1 hn with rfl | hn
   ·rw [hp, hd]
    exact ⟨Nat.zero_le _, Nat.zero_le _⟩
   ·have := hf.small n hn
    simp at this
    omega
 refine ⟨hl, h1, ?_⟩
 have h2 := packP_len (x :: r)
 have h3 : ∀ l : List Node, (∀ n ∈ l, n.path.length ≤ 245 ∧ n.data.length ≤ 100) → (l.map fun x => x.path.length + x.data.length).sum ≤ l.length * 345 := by
  intro l
  induction l with
  | nil => intro _; simp
  | cons x r ih =>
    intro hx
    have h3 := ih fun y hy => hx y (List.mem_cons_of_mem _ hy)
    have h4 := hx x (List.mem_cons_self ..)
    simp only [List.map_cons, List.sum_cons, List.length_cons, Nat.succ_mul]
    omega
 have h4 := h3 _ h1
 generalize (List.map (fun x => x.path.length + x.data.length) (x :: r)).sum = A at *
 generalize (x :: r).length = B at *
 generalize (packP (x :: r)).length = C at *
 omega
def RQ.failIf (q : RQ) (e p : Int) : RQ := if e = 0 then q else q.fail e p
def entsOf (L : Ents) (K : List (List UInt8)) : Ents := K.filterMap (findE L)
theorem entsOf_cons {L : Ents} {K : List (List UInt8)} {p : List UInt8} {e : Ent} (h : findE L p = some e) : entsOf L (p :: K) = e :: entsOf L K := by simp [entsOf, h]
theorem entsOf_drop {L : Ents} {K : List (List UInt8)} {k : Nat} {p : List UInt8} {e : Ent} (hk : K[k]? = some p) (h : findE L p = some e) : entsOf L (K.drop k) = e :: entsOf L (K.drop (k + 1)) := by
 obtain ⟨hlt, hg⟩ := List.getElem?_eq_some_iff.1 hk
 rw [List.drop_eq_getElem_cons hlt, hg, entsOf_cons h]
def expAt (L : Ents) (K : List (List UInt8)) (k : Nat) : List UInt8 := (entsOf L (K.drop k)).flatMap expEnt ++ putL wEnd
theorem expAt_step {L : Ents} {K : List (List UInt8)} {k : Nat} {p : List UInt8} {e : Ent} (hk : K[k]? = some p) (h : findE L p = some e) : expAt L K k = expEnt e ++ expAt L K (k + 1) := by
 unfold expAt
 rw [entsOf_drop hk h]
 simp
theorem expAt_end {L : Ents} {K : List (List UInt8)} : expAt L K K.length = putL wEnd := by
 unfold expAt
 rw [List.drop_length]
 rfl
theorem expL_start (L : Ents) (K : List (List UInt8)) : expL (entsOf L K) = putL wExport ++ expAt L K 0 := rfl
def refsAt (e : Ent) (j : Nat) : List UInt8 := refsL (e.refs.drop j) ++ (putL wSum ++ putL (sumOf (packP e.tree)).data.toList)
theorem refsAt_step {e : Ent} {j : Nat} {r : List UInt8} (h : e.refs[j]? = some r) : refsAt e j = putAll [wRef, r] ++ refsAt e (j + 1) := by
 obtain ⟨hlt, hg⟩ := List.getElem?_eq_some_iff.1 h
 unfold refsAt
 rw [List.drop_eq_getElem_cons hlt, hg]
 simp [refsL, putAll]
theorem refsAt_end {e : Ent} : refsAt e e.refs.length = putAll [wSum, (sumOf (packP e.tree)).data.toList] := by
 unfold refsAt
 rw [List.drop_length]
 simp [refsL, putAll]
theorem expEnt_eq (e : Ent) : expEnt e = (putAll [wPath, e.path] ++ packP e.tree ++ putAll [wRefs]) ++ refsAt e 0 := by
 simp [expEnt, refsAt, putAll]
theorem putL_le (s : List UInt8) : (putL s).length ≤ s.length + 15 := by
 rw [putL_length]
 have := padN_lt s.length
 omega
theorem StoreOk.pathLen {L : Ents} (h : StoreOk L) {p : List UInt8} (hp : (findE L p).isSome = true) : p.length ≤ 12 := by
 obtain ⟨e, he, rfl⟩ := findE_isSome.1 hp
 have h1 := (h.good e he).1
 unfold pathB at h1
 simp only [Bool.and_eq_true, decide_eq_true_eq] at h1
 exact h1.2
theorem StoreOk.refsLen {L : Ents} (h : StoreOk L) {e : Ent} (he : e ∈ L) : e.refs.length ≤ 10 ∧ ∀ r ∈ e.refs, r.length ≤ 12 := by
 refine ⟨?_, fun r hr => h.pathLen (h.has e he r hr)⟩
 have h1 := nodup_len e.refs (L.map Ent.path) (h.nodup he) fun r hr => by
  obtain ⟨o, ho, rfl⟩ := findE_isSome.1 (h.has e he r hr)
  exact List.mem_map_of_mem ho
 have h2 := h.ten
 rw [List.length_map] at h1
 omega
theorem refsL_len : ∀ l : List (List UInt8), (∀ r ∈ l, r.length ≤ 12) → (refsL l).length ≤ 45 * l.length
 | [], _ => by simp [refsL]
 | r :: l, h => by
   have h1 := refsL_len l fun x hx => h x (List.mem_cons_of_mem _ hx)
   have h2 := h r (List.mem_cons_self ..)
   have h3 := putL_le wRef
   have h4 := putL_le r
   have e : refsL (r :: l) = putL wRef ++ putL r ++ refsL l := by simp [refsL]
   rw [e, List.length_append, List.length_append, List.length_cons]
   have h5 : wRef.length = 3 := rfl
   omega
theorem sumOf_len (l : List UInt8) : (sumOf l).data.toList.length = 8 := by simp [sumOf, sumB, sumL]
theorem expEnt_len {e : Ent} (h1 : e.path.length ≤ 12) (h2 : wrongL e.tree = -1) (h3 : e.refs.length ≤ 10) (h4 : ∀ r ∈ e.refs, r.length ≤ 12) : (expEnt e).length ≤ 31000 := by
 have a1 := putL_le wPath
 have a2 := putL_le e.path
 have a3 := (wrong_small h2).2.2
 have a4 := putL_le wRefs
 have a5 := refsL_len e.refs h4
 have a6 := putL_le wSum
 have a7 := putL_le (sumOf (packP e.tree)).data.toList
 rw [sumOf_len] at a7
 have b1 : wPath.length = 4 := rfl
 have b2 : wRefs.length = 4 := rfl
 have b3 : wSum.length = 3 := rfl
 unfold expEnt
 simp only [List.length_append]
 omega
theorem ents_len : ∀ es : Ents, (∀ e ∈ es, (expEnt e).length ≤ 31000) → (es.flatMap expEnt).length ≤ 31000 * es.length
 | [], _ => by simp
 | e :: r, h => by
   have h1 := ents_len r fun x hx => h x (List.mem_cons_of_mem _ hx)
   have h2 := h e (List.mem_cons_self ..)
   rw [List.flatMap_cons, List.length_append, List.length_cons]
   omega
theorem entsOf_mem {L : Ents} {K : List (List UInt8)} {e : Ent} (h : e ∈ entsOf L K) : e ∈ L ∧ e.path ∈ K := by
 obtain ⟨p, hp, he⟩ := List.mem_filterMap.1 h
 obtain ⟨h1, rfl⟩ := findE_some he
 exact ⟨h1, hp⟩
theorem entsOf_len (L : Ents) (K : List (List UInt8)) : (entsOf L K).length ≤ K.length := List.length_filterMap_le _ _
theorem StoreOk.entLen {L : Ents} (h : StoreOk L) {e : Ent} (he : e ∈ L) : (expEnt e).length ≤ 31000 := by
 obtain ⟨h3, h4⟩ := h.refsLen he
 exact expEnt_len (h.pathLen (findE_isSome.2 ⟨e, he, rfl⟩)) (h.good e he).2.1 h3 h4
theorem expL_len {es : Ents} (h : ∀ e ∈ es, (expEnt e).length ≤ 31000) (h10 : es.length ≤ 10) : (expL es).length ≤ 320000 := by
 have h1 := ents_len es h
 have a1 := putL_le wExport
 have a2 := putL_le wEnd
 have b1 : wExport.length = 8 := rfl
 have b2 : wEnd.length = 3 := rfl
 unfold expL
 simp only [List.length_append]
 omega
theorem exp_len {L : Ents} {K : List (List UInt8)} (h : StoreOk L) (hK : K.length ≤ 10) : (expL (entsOf L K)).length ≤ 320000 :=
 expL_len (fun e he => h.entLen (entsOf_mem he).1) (Nat.le_trans (entsOf_len L K) hK)
end Go.Proofs.YtdkogijdfgfpeaaGreatDoor

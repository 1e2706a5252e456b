/- tree.Pack: the bytes of a tree. -/
import Derived.Test.YtdkogijdfgfpeaaGreatDoorVCome
set_option linter.unusedVariables false
namespace Go.Proofs.YtdkogijdfgfpeaaGreatDoor
open Go Go.RowKit
def closeT (r : List (List UInt8)) : List UInt8 := putAll [[41]] ++ (if r = [] then [] else putAll [[41]])
def unwind (p : List UInt8) : List (List UInt8) → List UInt8 × List (List UInt8)
 | [] => ([], [])
 | d :: r => if underB p d then ([], d :: r) else (closeT r ++ (unwind p r).1, (unwind p r).2)
def unwindAll : List (List UInt8) → List UInt8
 | [] => []
 | d :: r => closeT r ++ unwindAll r
def baseL (p : List UInt8) : List UInt8 := p.drop (lastIdx p 47 + 1).toNat
def headT (k : Nat) (p : List UInt8) : List UInt8 := if k = 0 then [] else putAll [[101, 110, 116, 114, 121], [40], [110, 97, 109, 101], baseL p, [110, 111, 100, 101]]
def tailT (k : Nat) : List UInt8 := if k = 0 then [] else putAll [[41]]
def leafT (kd : Int) (da : List UInt8) : List UInt8 :=
 if kd = 3 then putAll [[108, 105, 110, 107], [116, 111], da, [41]]
 else if kd = 2 then putAll [[102, 105, 108, 101], [101, 120, 101, 99], [], [100, 97, 116, 97], da, [41]]
 else putAll [[102, 105, 108, 101], [100, 97, 116, 97], da, [41]]
def typeT : List UInt8 := putAll [[40], [116, 121, 112, 101]]
def packGo : List Node → Nat → List (List UInt8) → List UInt8
 | [], _, st => unwindAll st
 | n :: r, k, st => (unwind n.path st).1 ++ (headT k n.path ++ (typeT ++
     (if n.kind = 4 then putAll [[100, 105, 114]] ++ packGo r (k + 1) (n.path :: (unwind n.path st).2)
      else leafT n.kind n.data ++ (tailT k ++ packGo r (k + 1) (unwind n.path st).2))))
def packP (l : List Node) : List UInt8 := putAll [[110, 97, 114, 45, 49]] ++ packGo l 0 []
theorem packP_ne (l : List Node) : packP l ≠ [] := by
 intro h
 have := congrArg List.length h
 simp [packP, putAll, putL, le8] at this
attribute [local irreducible] putAll closeT baseL
def StrAt (w : World) (B b : Nat) (st : List (List UInt8)) : Prop :=
 ∃ v, Blk w b #[v] 26 ∧ B ≤ b ∧ Sl w B 9 1 v st.length (svs st)
theorem StrAt.kp {w w' : World} {B b : Nat} {st : List (List UInt8)} (h : StrAt w B b st) {B' : Nat} {Ts : List TypeId} (k : Kp B' Ts w w') (hn : 26 ∉ Ts ∧ 9 ∉ Ts) : StrAt w' B b st := by
 obtain ⟨v, hb, hB, hs⟩ := h
 exact ⟨v, hb.kp k (.inr hn.1), hB, hs.kp k (.inl hn.2)⟩
abbrev pkTs : List TypeId := [93, 5, 26, 9]
structure PkS (W : World) (B ba bb : Nat) (bl : List (Nat × Array Value)) (T rest : List UInt8) (st : List (List UInt8)) (w : World) : Prop where
 bu : ∃ out, BuilderAt w B bb out ∧ out ++ rest = T
 ft : T.length ≤ 70368744177664
 sa : StrAt w B ba st
 kp : Kp B pkTs W w
 bx : ∀ x ∈ bl, Blk w x.1 x.2 49
section
variable {W w w' : World} {B ba bb : Nat} {bl : List (Nat × Array Value)} {T rest : List UInt8} {st : List (List UInt8)}
theorem PkS.alloc (h : PkS W B ba bb bl T rest st w) (o : Obj) : PkS W B ba bb bl T rest st (w.alloc o) := by
 have k : Kp B [] w (w.alloc o) := (Kp.refl _ _ _).alloc _
 obtain ⟨out, hb, ho⟩ := h.bu
 exact ⟨⟨out, hb.kp k (.inr (by simp)), ho⟩, h.ft, h.sa.kp k (by simp), h.kp.alloc _, fun x hx => (h.bx x hx).alloc _⟩
theorem PkS.keeps (h : PkS W B ba bb bl T rest st w) (hk : Keeps Non w w') : PkS W B ba bb bl T rest st w' := by
 have k : Kp B [] w w' := Kp.of_keeps hk
 obtain ⟨out, hb, ho⟩ := h.bu
 exact ⟨⟨out, hb.kp k (.inr (by simp)), ho⟩, h.ft, h.sa.kp k (by simp), h.kp.trans (Kp.of_keeps hk), fun x hx => (h.bx x hx).kp k (.inr (by simp))⟩
theorem putArg (w : World) (n sz : Nat) (l : List (List UInt8)) (c : Array Value) (hsz : sz = w.heap.size) (hc : c = (svs l).toArray) (hn : l.length = n) (h : l.length ≤ 100) : Sl (w.alloc (.cells c 9)) 0 9 1 (.slice (some ⟨sz, 0, none⟩) n n) l.length (svs l) := by
 subst hn
 subst hc
 subst hsz
 exact Sl.of_new w 0 (Nat.zero_le _) 9 1 l.length (svs l) (by simp [svs]) (by unfold maxLen; omega)
theorem pk_put (h : PkS W B ba bb bl T rest st w) (l : List (List UInt8)) (n sz : Nat) (c : Array Value) (hsz : sz = w.heap.size) (hc : c = (svs l).toArray) (hn : l.length = n) (h0 : 0 < n) (h9 : n ≤ 100) (hr : roomOf l ≤ 70368744177664) :
 Calls Tryz.prog 41 #[.slice (some ⟨sz, 0, none⟩) n n] (w.alloc (.cells c 9)) fun e w' => e = .returned (.string ⟨(putAll l).toArray⟩) ∧ PkS W B ba bb bl T rest st w' := by
 subst hsz
 refine (put_any _ l _ (putArg w n _ l c rfl hc hn (by omega)) (by omega) hr).mono ?_
 rintro e w1 ⟨rfl, hk⟩
 exact ⟨rfl, (h.alloc _).keeps hk⟩
theorem pk_put_drew (h : PkS W B ba bb bl T rest st w) (l : List (List UInt8)) (n sz : Nat) (c : Array Value) (hsz : sz = w.heap.size) (hc : c = (svs l).toArray) (hn : l.length = n) (h0 : 0 < n) (h9 : n ≤ 100) (hr : roomOf l ≤ 70368744177664) :
 Calls Tryz.prog 41 #[.slice (some ⟨sz, 0, none⟩) n n] (w.alloc (.cells c 9)).drew fun e w' => e = .returned (.string ⟨(putAll l).toArray⟩) ∧ PkS W B ba bb bl T rest st w' := by
 subst hsz
 refine (put_any _ l _ (show Sl (w.alloc (.cells c 9)).drew 0 9 1 _ _ _ from putArg w n _ l c rfl hc hn (by omega)) (by omega) hr).mono ?_
 rintro e w1 ⟨rfl, hk⟩
 exact ⟨rfl, ((h.alloc (.cells c 9)).keeps (Keeps.refl _ _).drew).keeps hk⟩
theorem pk_write (x : List UInt8) (h : PkS W B ba bb bl T (x ++ rest) st w) :
 Calls Tryz.prog 40 #[.pointer (some ⟨bb, 0, none⟩), .string ⟨x.toArray⟩] w fun e w' => e = .returned (.tuple #[.int .i64 x.length, .nilIface]) ∧ PkS W B ba bb bl T rest st w' := by
 obtain ⟨⟨out, hb, ho⟩, hf, hs, hk, hx⟩ := h
 have hl : out.length + (x.length + rest.length) = T.length := by rw [← ho]; simp
 refine (writeString_any B bb out ⟨x.toArray⟩ w hb (by show _ + x.toArray.size ≤ _; simp; omega)).mono ?_
 rintro e w1 ⟨rfl, hb1, hk1⟩
 refine ⟨rfl, ⟨_, hb1, by rw [← ho, List.append_assoc]⟩, hf, hs.kp hk1 (by decide), hk.trans (hk1.mono (.inr ⟨Nat.le_refl _, by decide⟩)), fun y hy => (hx y hy).kp hk1 (.inr (by decide))⟩
end
set_option maxHeartbeats 800000 in
set_option maxRecDepth 100000 in
theorem close_any {W w : World} {B ba bb : Nat} {bl : List (Nat × Array Value)} {T rest : List UInt8} (st : List (List UInt8)) (d : List UInt8) (h : PkS W B ba bb bl T (closeT st ++ rest) (st ++ [d]) w) :
 Calls Tryz.prog 92 #[.pointer (some ⟨ba, 0, none⟩), .pointer (some ⟨bb, 0, none⟩)] w fun e w' => e = .returned (.tuple #[]) ∧ PkS W B ba bb bl T rest st w' := by
 obtain ⟨⟨out, hbu, ho⟩, hf, ⟨v, hv, hBa, hs⟩, hkp, hbx⟩ := h
 obtain ⟨b, off, cap, rfl, hBb, hnc, hcm, hlt, hcell, hfree⟩ := hs.pos (by simp)
 unfold maxLen at hcm
 have e1 : (st ++ [d]).length = st.length + 1 := by simp
 have c0 : w.cell? ⟨ba, 0, none⟩ = some (.slice (some ⟨b, off, none⟩) (st.length + 1) cap) := by have := hv.cell 0; rw [e1] at this; exact this
 have f0 := hv.free 0
 rw [e1] at hnc
 have hp0 : Hid (PkS W B ba bb bl T (closeT st ++ rest) st (w.setCell ⟨ba, 0, none⟩ (.slice (some ⟨b, off, none⟩) st.length cap))) := by
  have hk : Kp B [26] w (w.setCell ⟨ba, 0, none⟩ (.slice (some ⟨b, off, none⟩) st.length cap)) := (Kp.refl _ _ _).set hv (.inr ⟨hBa, by simp⟩) _ _
  refine ⟨⟨out, hbu.kp hk (.inr (by decide)), ho⟩, hf, ⟨_, hv.set 0 _, hBa, ?_⟩, hkp.trans (hk.mono (.inr ⟨Nat.le_refl _, by decide⟩)), fun x hx => (hbx x hx).kp hk (.inr (by decide))⟩
  have := (hs.take (m := st.length) (by simp)).kp hk (.inl (by decide))
  simpa [svs] using this
 clear hv hs hbu hcell hfree e1 hkp hbx ho
 go_enter Tryz.func92, Tryz.ntmps92
 go_wp2_with fail
 refine (pk_put hp0.out [[41]] 1 _ _ (by simp) ?c1 rfl (by omega) (by omega) (by simp [roomOf])).mono ?_
 case c1 => rfl
 rintro e w1 ⟨rfl, hq⟩
 have hp1 : Hid (PkS W B ba bb bl T (putAll [[41]] ++ ((if st = [] then [] else putAll [[41]]) ++ rest)) st w1) := by
  unfold closeT at hq; rw [List.append_assoc] at hq; exact hq
 clear hq hp0
 go_wp2_with fail
 refine (pk_write _ hp1.out).mono ?_
 rintro e w2 ⟨rfl, hq⟩
 obtain ⟨va, hva, -, hsl⟩ := hq.sa
 obtain ⟨aa, ac, rfl, -, -⟩ := hsl.shape
 have d0 : w2.cell? ⟨ba, 0, none⟩ = some (.slice aa st.length ac) := hva.cell 0
 have hp2 := Lib.hid hq
 clear hq hp1 hva hsl c0 f0
 rcases Nat.eq_zero_or_pos st.length with h0 | h0
 ·obtain rfl : st = [] := List.eq_nil_of_length_eq_zero h0
  go_wp2_with fail
  go_end0
  exact ⟨rfl, by simpa using hp2.out⟩
 ·have hd : decide ((0 : Int) < (st.length : Int)) = true := by simp; omega
  have hp3 : Hid (PkS W B ba bb bl T (putAll [[41]] ++ rest) st w2) := by
   have := hp2.out
   rwa [if_neg (by rintro rfl; simp at h0)] at this
  clear hp2
  go_wp2_with fail
  refine (pk_put hp3.out [[41]] 1 _ _ (by simp) ?c1 rfl (by omega) (by omega) (by simp [roomOf])).mono ?_
  case c1 => rfl
  rintro e w3 ⟨rfl, hq⟩
  have hp4 := Lib.hid hq
  clear hq hp3 d0
  go_wp2_with fail
  refine (pk_write _ hp4.out).mono ?_
  rintro e w4 ⟨rfl, hq⟩
  have hp5 := Lib.hid hq
  clear hq hp4
  go_wp2_with fail
  go_end0
  exact ⟨rfl, hp5.out⟩
def Shorts (k : Nat) (st : List (List UInt8)) : Prop := st.length ≤ k ∧ ∀ d ∈ st, d.length ≤ 1099511627776
theorem unwind_sub (k : Nat) (p : List UInt8) (st : List (List UInt8)) (h : Shorts k st) : Shorts k (unwind p st).2 := by
 induction st with
 | nil => exact h
 | cons d r ih =>
   unfold unwind
   split
   ·exact h
   ·exact ih ⟨by have := h.1; simp at this; omega, fun x hx => h.2 x (List.mem_cons_of_mem _ hx)⟩
theorem infoStr : (Tryz.prog.info? 9).map (fun i => (i.zero, i.size, i.bytes)) = some (some (.string ⟨#[]⟩), 1, 16) := by kernel_rfl
theorem PkS.drewN {W w : World} {B ba bb : Nat} {bl : List (Nat × Array Value)} {T rest : List UInt8} {st : List (List UInt8)} (h : PkS W B ba bb bl T rest st w) (n : Nat) : PkS W B ba bb bl T rest st (w.drewN n) := h.keeps ((Keeps.refl _ _).drewN n)
theorem lastAt_range (l : List UInt8) (c : UInt8) (k : Nat) : -1 ≤ lastAt l c k ∧ lastAt l c k < k := by
 induction k with
 | zero => simp [lastAt]
 | succ k ih =>
   unfold lastAt
   split <;> omega
theorem lastIdx_range (p : List UInt8) : ∃ j : Nat, j ≤ p.length ∧ lastIdx p 47 = (j : Int) - 1 ∧ baseL p = p.drop j := by
 have h := lastAt_range p 47 p.length
 refine ⟨(lastIdx p 47 + 1).toNat, ?_, ?_, by unfold baseL; rfl⟩ <;> unfold lastIdx <;> omega
theorem baseL_le (p : List UInt8) : (baseL p).length ≤ p.length := by unfold baseL; simp
theorem PkS.start {w w1 : World} {bb : Nat} {B : Nat} {x : List UInt8} {T rest : List UInt8} (hb : BuilderAt w1 B bb x) (ho : x ++ rest = T) (hf : T.length ≤ 70368744177664) (hk : Kp B pkTs w w1) (hB : B ≤ w1.heap.size) :
 PkS w B w1.heap.size bb [] T rest [] (w1.alloc (.cells #[.slice none 0 0] 26)) := by
 have k : Kp B [] w1 (w1.alloc (.cells #[.slice none 0 0] 26)) := (Kp.refl _ _ _).alloc _
 exact ⟨⟨x, hb.kp k (.inr (by simp)), ho⟩, hf, ⟨_, Blk.new w1 _ _, hB, Sl.nil _ _ _ _⟩, hk.alloc _, by simp⟩
def NodesSmall (l : List Node) : Prop := ∀ n ∈ l, n.path.length ≤ 1099511627776 ∧ n.data.length ≤ 1099511627776
set_option maxHeartbeats 1600000 in
set_option maxRecDepth 100000 in
theorem pack_any (v : Value) (l : List Node) (w : World) (hv : Rd w 3 v l.length (nodeCells l)) (hl30 : l.length ≤ 1000) (hfit : NodesSmall l) (hlen : (packP l).length ≤ 70368744177664) :
 Calls Tryz.prog 56 #[v] w fun e w' => e = .returned (.string ⟨(packP l).toArray⟩) ∧ Keeps Non w w' := by
 obtain ⟨a, cap, rfl, hl63, -⟩ := hv.shape
 have HV := Lib.hid hv
 have HFIT := Lib.hid hfit
 have HLEN := Lib.hid hlen
 clear hv hfit hlen
 go_enter Tryz.func56, Tryz.ntmps56
 go_wp2_with fail
 refine (put_any _ [[110, 97, 114, 45, 49]] _ ?p1 ?p2 ?p3).mono ?_
 case p1 => exact putArg _ 1 _ [[110, 97, 114, 45, 49]] _ (by simp) rfl rfl (by simp)
 case p2 => simp
 case p3 => simp [roomOf]
 rintro e w1 ⟨rfl, hk1⟩
 unfold sv
 have hb1 : Hid (BuilderAt w1 w.heap.size w.heap.size [] ∧ Kp w.heap.size pkTs w w1) := by
  have k0 : Kp w.heap.size [] w ((w.alloc (.cells #[.pointer none, .slice none 0 0] 93)).alloc (.cells #[.string ⟨#[110, 97, 114, 45, 49]⟩] 9)) := ((Kp.refl _ _ _).alloc _).alloc _
  have k1 := (Kp.refl (w.heap.size + 1) [] (w.alloc (.cells #[.pointer none, .slice none 0 0] 93))).alloc (.cells #[.string ⟨#[110, 97, 114, 45, 49]⟩] 9)
  refine ⟨((BuilderAt.new w).kp k1 (.inr (by simp))).kp (Kp.of_keeps (B := w.heap.size) (Ts := []) hk1) (.inr (by simp)), (k0.mono (.inr ⟨Nat.le_refl _, by simp⟩)).trans (Kp.of_keeps hk1)⟩
 clear hk1
 go_wp2_with fail
 refine (writeString_any w.heap.size w.heap.size [] _ w1 hb1.out.1 ?_).mono ?_
 ·have := putAll_le [[110, 97, 114, 45, 49]]
  show ([] : List UInt8).length + (putAll [[110, 97, 114, 45, 49]]).toArray.size ≤ _
  simp [roomOf] at this ⊢
  omega
 rintro e w2 ⟨rfl, hb2, hk2⟩
 have hp2 : Hid (PkS w w.heap.size w2.heap.size w.heap.size [] (packP l) (packGo l 0 []) [] (w2.alloc (.cells #[.slice none 0 0] 26))) := by
  refine PkS.start hb2 ?_ HLEN.out (hb1.out.2.trans (hk2.mono (.inr ⟨Nat.le_refl _, by decide⟩))) ?_
  ·simp [packP]
  ·have h1 := hb1.out.2.size
   have h2 := hk2.size
   omega
 clear hb1 hb2 hk2
 go_wp2_with fail
 generalize w2.heap.size = ba at *
 generalize w2.alloc (.cells #[.slice none 0 0] 26) = w3 at *
 go_loopg [14] l.length (fun gk i wr => ∃ (k : Nat) (st : List (List UInt8)), Hid (Shorts k st) ∧ k ≤ l.length ∧ gk = l.length - k ∧ i = .int .i64 k ∧ Hid (PkS w w.heap.size ba w.heap.size [] (packP l) (packGo (l.drop k) k st) st.reverse wr))
 case atStart => exact ⟨0, [], ⟨Nat.le_refl _, by intro d hd; simp at hd⟩, Nat.zero_le _, rfl, rfl, hp2⟩
 case round =>
  obtain ⟨k, st, hsh0, hk, rfl, rfl, hp⟩ := hrel
  clear hp2
  by_cases hlt : k < l.length
  ·have hat := nodeCells_at l k hlt
   have hpg : packGo (l.drop k) k st = (unwind l[k].path st).1 ++ (headT k l[k].path ++ (typeT ++
    (if l[k].kind = 4 then putAll [[100, 105, 114]] ++ packGo (l.drop (k + 1)) (k + 1) (l[k].path :: (unwind l[k].path st).2)
     else leafT l[k].kind l[k].data ++ (tailT k ++ packGo (l.drop (k + 1)) (k + 1) (unwind l[k].path st).2)))) := by
    rw [List.drop_eq_getElem_cons hlt]; rfl
   have hf := HFIT.out l[k] (List.getElem_mem hlt)
   obtain ⟨b, off, cp, hsh, -, -, hcm, hbl, hc, -⟩ := HV.out.pos (by omega)
   cases hsh
   unfold maxLen at hcm
   have hbelow := hp.out.kp.below (Nat.le_refl _)
   have c0 := (hbelow.cell (p := ⟨b, off + k * 3, none⟩) hbl).trans ((hc _ (by omega)).trans hat.1)
   have c1 := (hbelow.cell (p := ⟨b, off + k * 3 + 1, none⟩) hbl).trans ((hc _ (by omega)).trans hat.2.1)
   have c2 := (hbelow.cell (p := ⟨b, off + k * 3 + 2, none⟩) hbl).trans ((hc _ (by omega)).trans hat.2.2)
   clear hat hbelow hc
   generalize l[k] = N at *
   obtain ⟨p, kd, da⟩ := N
   simp only at hpg hf c0 c1 c2
   unfold sv at c0 c2
   obtain ⟨s2, hs2⟩ : ∃ s2, (unwind p st).2 = s2 := ⟨_, rfl⟩
   obtain ⟨R3, hR3⟩ : ∃ R3, (if kd = 4 then putAll [[100, 105, 114]] ++ packGo (l.drop (k + 1)) (k + 1) (p :: s2)
    else leafT kd da ++ (tailT k ++ packGo (l.drop (k + 1)) (k + 1) s2)) = R3 := ⟨_, rfl⟩
   rw [hs2, hR3] at hpg
   have HR3 := Lib.hid hR3
   have HF := Lib.hid hf
   have hp4 : Hid (PkS w w.heap.size ba w.heap.size [(wr.heap.size, #[.string ⟨p.toArray⟩, .int .i64 kd, .string ⟨da.toArray⟩])] (packP l) ((unwind p st).1 ++ (headT k p ++ (typeT ++ R3))) st.reverse (wr.alloc (.cells #[.string ⟨p.toArray⟩, .int .i64 kd, .string ⟨da.toArray⟩] 49))) := by
    have h1 := hp.out.alloc (.cells #[.string ⟨p.toArray⟩, .int .i64 kd, .string ⟨da.toArray⟩] 49)
    rw [hpg] at h1
    exact ⟨h1.bu, h1.ft, h1.sa, h1.kp, by simp only [List.mem_singleton]; rintro x rfl; exact Blk.new _ _ _⟩
   have HS2 := Lib.hid hs2
   have HSS : Hid (Shorts k s2) := by rw [← hs2]; exact unwind_sub _ _ _ hsh0.out
   clear hpg hs2 hR3 hf hp
   go_wp2_with fail
   generalize wr.alloc (.cells #[.string ⟨p.toArray⟩, .int .i64 kd, .string ⟨da.toArray⟩] 49) = w4 at *
   generalize wr.heap.size = bx at *
   clear c0 c1 c2
   go_loopg [] st.length (fun gj wq => ∃ (st' : List (List UInt8)), Hid (Shorts k st') ∧ gj = st'.length ∧ Hid ((unwind p st').2 = s2) ∧ Hid (PkS w w.heap.size ba w.heap.size [(bx, #[.string ⟨p.toArray⟩, .int .i64 kd, .string ⟨da.toArray⟩])] (packP l) ((unwind p st').1 ++ (headT k p ++ (typeT ++ R3))) st'.reverse wq))
   case atStart => exact ⟨st, hsh0, rfl, HS2, hp4⟩
   case round =>
    clear hp4 HS2
    obtain ⟨st', hsh1, rfl, HS2, hq⟩ := hrel
    go_upto_region 8 with (fail)
    go_cut [33] (fun c wx => (c = .bool true ∧ ∃ (d : List UInt8) (r : List (List UInt8)), Hid (Shorts k r) ∧ r.length < st'.length ∧ Hid ((unwind p r).2 = s2) ∧ Hid (PkS w w.heap.size ba w.heap.size [(bx, #[.string ⟨p.toArray⟩, .int .i64 kd, .string ⟨da.toArray⟩])] (packP l) (closeT r.reverse ++ ((unwind p r).1 ++ (headT k p ++ (typeT ++ R3)))) (r.reverse ++ [d]) wx)) ∨
     (c = .bool false ∧ Hid (PkS w w.heap.size ba w.heap.size [(bx, #[.string ⟨p.toArray⟩, .int .i64 kd, .string ⟨da.toArray⟩])] (packP l) (headT k p ++ (typeT ++ R3)) s2.reverse wx)))
    case first =>
     obtain ⟨va, hva, -, hsl⟩ := hq.out.sa
     have hbx := hq.out.bx _ (List.mem_singleton.2 rfl)
     have n0 : wr.cell? ⟨bx, 0, none⟩ = some (.string ⟨p.toArray⟩) := hbx.cell 0
     clear hbx
     rcases st' with _ | ⟨d, r⟩
     ·obtain ⟨aa, ac, rfl, h1, h2⟩ := hsl.shape
      have d0 : wr.cell? ⟨ba, 0, none⟩ = some (.slice aa 0 ac) := hva.cell 0
      have hq1 : Hid (PkS w w.heap.size ba w.heap.size [(bx, #[.string ⟨p.toArray⟩, .int .i64 kd, .string ⟨da.toArray⟩])] (packP l) (headT k p ++ (typeT ++ R3)) s2.reverse wr) := by
       have h := hq.out
       have e := HS2.out
       rw [← e]
       exact h
      clear hva hsl hq HS2
      go_quiet (fail)
      go_wp2_with fail
      go_meet
      exact .inr ⟨rfl, hq1.out.drewN _⟩
     ·obtain ⟨b', off', cap', rfl, -, hnc', hcm', hlt', hcell', -⟩ := hsl.pos (by simp)
      unfold maxLen at hcm'
      have e1 : ((d :: r).reverse).length = r.length + 1 := by simp
      rw [e1] at hnc' hcell' hva
      have d0 : wr.cell? ⟨ba, 0, none⟩ = some (.slice (some ⟨b', off', none⟩) (r.length + 1) cap') := hva.cell 0
      have d1 : wr.cell? ⟨b', off' + r.length, none⟩ = some (.string ⟨d.toArray⟩) := by
       rw [hcell' _ (by omega)]
       simp [svs, sv]
      have hdf : (⟨d.toArray⟩ : ByteArray).size < 9223372036854775807 := by have := hsh1.out.2 d (List.mem_cons_self ..); show d.toArray.size < _; simp; omega
      clear hva hsl hcell' e1
      have q1 : IntKind.i64.wrap (r.length : Int) = (r.length : Int) := IntWalk.i64_in _ (by omega)
      have q2 : (0 : Int) ≤ (r.length : Int) := by omega
      have q3 : (r.length : Int) < (r.length : Int) + 1 := by omega
      have q4 : r.length < r.length + 1 := by omega
      have q5 : (0 : Int) < (r.length : Int) + 1 := by omega
      have q6 : IntKind.i64.wrap ((r.length : Int) + 1 - 1) = (r.length : Int) := by rw [IntWalk.i64_in _ (by omega)]; omega
      cases hu : underB p d with
      | true =>
        have hq1 : Hid (PkS w w.heap.size ba w.heap.size [(bx, #[.string ⟨p.toArray⟩, .int .i64 kd, .string ⟨da.toArray⟩])] (packP l) (headT k p ++ (typeT ++ R3)) s2.reverse wr) := by
         have h := hq.out
         have e := HS2.out
         rw [← e]
         simp only [unwind, hu, if_true] at h ⊢
         exact h
        have HU := Lib.hid hu
        clear hu HS2 hq
        have hund : ∀ w' : World, Calls Tryz.prog 93 #[.string ⟨p.toArray⟩, .string ⟨d.toArray⟩] w' fun e w'' => e = .returned (.bool true) ∧ w'' = w' := fun w' => (under_any _ _ _ hdf).mono (by rintro e w2 ⟨rfl, rfl⟩; exact ⟨bool_ret HU.out, rfl⟩)
        have HUND := Lib.hid hund
        clear hund
        go_quiet (first | (go_at_call 93; exact Calls.quiet_of_same (HUND.out _)))
        go_wp2_with fail
        go_meet
        exact .inr ⟨rfl, hq1.out.drewN _⟩
      | false =>
        have hq1 : Hid (PkS w w.heap.size ba w.heap.size [(bx, #[.string ⟨p.toArray⟩, .int .i64 kd, .string ⟨da.toArray⟩])] (packP l) (closeT r.reverse ++ ((unwind p r).1 ++ (headT k p ++ (typeT ++ R3)))) (r.reverse ++ [d]) wr) := by
         have h := hq.out
         have e : closeT r.reverse = closeT r := by unfold closeT; simp
         rw [List.reverse_cons] at h
         rw [e, ← List.append_assoc]
         simp only [unwind, hu] at h
         exact h
        have hs3 : Hid ((unwind p r).2 = s2) := by
         have h := HS2.out
         simp only [unwind, hu] at h
         exact h
        have HU := Lib.hid hu
        clear hu HS2 hq
        have hund : ∀ w' : World, Calls Tryz.prog 93 #[.string ⟨p.toArray⟩, .string ⟨d.toArray⟩] w' fun e w'' => e = .returned (.bool false) ∧ w'' = w' := fun w' => (under_any _ _ _ hdf).mono (by rintro e w2 ⟨rfl, rfl⟩; exact ⟨bool_ret HU.out, rfl⟩)
        have HUND := Lib.hid hund
        clear hund
        have hsh2 : Hid (Shorts k r) := ⟨by have := hsh1.out.1; simp at this; omega, fun x hx => hsh1.out.2 x (List.mem_cons_of_mem _ hx)⟩
        have hlr : r.length < (d :: r).length := by simp
        go_quiet (first | (go_at_call 93; exact Calls.quiet_of_same (HUND.out _)))
        go_wp2_with fail
        go_meet
        exact .inl ⟨rfl, d, r, hsh2, hlr, hs3, hq1.out.drewN _⟩
    case rest =>
     rcases hcut with ⟨rfl, d, r, hsh3, hlt3, HS3, hq3⟩ | ⟨rfl, hq3⟩
     ·clear hq HS2
      go_wp2_with fail
      refine (close_any r.reverse d hq3.out).mono ?_
      rintro e w5 ⟨rfl, hq5⟩
      have HQ5 := Lib.hid hq5
      clear hq5 hq3
      go_wp2_with fail
      go_roundg r.length
      case measure => omega
      case rel => exact ⟨r, hsh3, rfl, HS3, HQ5⟩
     ·clear hq HS2
      go_upto_if 37 with (fail)
      go_cut [] (fun wx => Hid (PkS w w.heap.size ba w.heap.size [(bx, #[.string ⟨p.toArray⟩, .int .i64 kd, .string ⟨da.toArray⟩])] (packP l) (typeT ++ R3) s2.reverse wx))
      case first =>
       by_cases hk0 : k = 0
       ·have hd : ¬ (0 < k) := by omega
        have hd2 : decide ((0 : Int) < (k : Int)) = false := by simp; omega
        have hq4 : Hid (PkS w w.heap.size ba w.heap.size [(bx, #[.string ⟨p.toArray⟩, .int .i64 kd, .string ⟨da.toArray⟩])] (packP l) (typeT ++ R3) s2.reverse wc) := by
         have h := hq3.out
         unfold headT at h
         rw [if_pos hk0] at h
         exact h
        clear hk0 hq3
        go_wp2_with fail
        go_meet
        exact hq4
       ·have hd : 0 < k := by omega
        have hd2 : decide ((0 : Int) < (k : Int)) = true := by simp; omega
        have hq4 : Hid (PkS w w.heap.size ba w.heap.size [(bx, #[.string ⟨p.toArray⟩, .int .i64 kd, .string ⟨da.toArray⟩])] (packP l) (putAll [[101, 110, 116, 114, 121], [40], [110, 97, 109, 101], baseL p, [110, 111, 100, 101]] ++ (typeT ++ R3)) s2.reverse wc) := by
         have h := hq3.out
         unfold headT at h
         rw [if_neg hk0] at h
         exact h
        clear hk0 hq3
        have n0 : wc.cell? ⟨bx, 0, none⟩ = some (.string ⟨p.toArray⟩) := (hq4.out.bx _ (List.mem_singleton.2 rfl)).cell 0
        obtain ⟨j, hj, hlj, hbj⟩ := lastIdx_range p
        have HLI : Hid (∀ w' : World, Calls Tryz.prog 94 #[.string ⟨p.toArray⟩, .int .u8 47] w' fun e w'' => e = .returned (.int .i64 ((j : Int) - 1)) ∧ w' = w'') := fun w' =>
         (lastIndex_any ⟨p.toArray⟩ 47 w' (by have := HF.out.1; show p.toArray.size ≤ _; simp; unfold maxLen; omega)).mono (by rintro e w2 ⟨rfl, rfl⟩; exact ⟨int_ret hlj, rfl⟩)
        have HBJ := Lib.hid hbj
        have hp40 := HF.out.1
        clear hlj hbj
        have q1 : IntKind.i64.wrap ((j : Int) - 1 + 1) = (j : Int) := by rw [IntWalk.i64_in _ (by omega)]; omega
        have q2 : (0 : Int) ≤ (j : Int) := by omega
        have q3 : (j : Int) ≤ ((p.length : Nat) : Int) := by omega
        have q4 : IntKind.i64.wrap (j : Int) = (j : Int) := IntWalk.i64_in _ (by omega)
        have q5 : (j : Int) ≤ ((⟨p.toArray⟩ : ByteArray).size : Int) := by show (j : Int) ≤ (p.toArray.size : Int); simp; omega
        have q6 : j ≤ (⟨p.toArray⟩ : ByteArray).size := by show j ≤ p.toArray.size; simp; omega
        go_wp2_with fail
        have HEX : Hid ((⟨p.toArray⟩ : ByteArray).extract j p.length = ⟨(baseL p).toArray⟩) := by
         show _ = _
         apply ByteArray.ext
         apply Array.ext'
         rw [ext_list, HBJ.out]
         simp
         rw [List.take_of_length_le (by simp)]
        have HPT : Hid (Calls Tryz.prog 41 #[.slice (some ⟨wc.heap.size, 0, none⟩) 5 5] (wc.alloc (.cells #[.string ⟨#[101, 110, 116, 114, 121]⟩, .string ⟨#[40]⟩, .string ⟨#[110, 97, 109, 101]⟩, .string ((⟨p.toArray⟩ : ByteArray).extract j p.length), .string ⟨#[110, 111, 100, 101]⟩] 9)).drew fun e w' =>
         e = .returned (.string ⟨(putAll [[101, 110, 116, 114, 121], [40], [110, 97, 109, 101], baseL p, [110, 111, 100, 101]]).toArray⟩) ∧ PkS w w.heap.size ba w.heap.size [(bx, #[.string ⟨p.toArray⟩, .int .i64 kd, .string ⟨da.toArray⟩])] (packP l) (putAll [[101, 110, 116, 114, 121], [40], [110, 97, 109, 101], baseL p, [110, 111, 100, 101]] ++ (typeT ++ R3)) s2.reverse w') := by
         refine pk_put_drew hq4.out [[101, 110, 116, 114, 121], [40], [110, 97, 109, 101], baseL p, [110, 111, 100, 101]] 5 _ _ rfl ?_ rfl (by omega) (by omega) ?_
         ·rw [HEX.out]; rfl
         ·have := baseL_le p
          simp only [roomOf, List.map_cons, List.sum_cons, List.length_cons, List.length_nil, List.map_nil, List.sum_nil]
          omega
        go_region_with (first
         | (go_at_call 94; refine (HLI.out _).mono ?_; rintro e w' ⟨rfl, rfl⟩)
         | (go_at_call 41; refine HPT.out.mono ?_; rintro e w' ⟨rfl, hq5⟩)
         | (go_at_call 40; refine (pk_write _ hq5).mono ?_; rintro e w' ⟨rfl, hq6⟩))
        all_goals (go_wp2_with fail)
        all_goals go_meet
        all_goals exact hq6
      case rest =>
       clear hq3
       have hq4 : Hid (PkS w w.heap.size ba w.heap.size [(bx, #[.string ⟨p.toArray⟩, .int .i64 kd, .string ⟨da.toArray⟩])] (packP l) (putAll [[40], [116, 121, 112, 101]] ++ R3) s2.reverse wc) := hcut
       clear hcut
       go_wp2_with fail
       refine (pk_put hq4.out [[40], [116, 121, 112, 101]] 2 _ _ rfl ?c1 rfl (by omega) (by omega) (by simp [roomOf])).mono ?_
       case c1 => rfl
       rintro e w5 ⟨rfl, hq⟩
       have hq5 := Lib.hid hq
       clear hq hq4
       go_wp2_with fail
       refine (pk_write _ hq5.out).mono ?_
       rintro e w6 ⟨rfl, hq⟩
       have hq6 := Lib.hid hq
       clear hq hq5
       have hbx6 := hq6.out.bx _ (List.mem_singleton.2 rfl)
       have n0 : w6.cell? ⟨bx, 0, none⟩ = some (.string ⟨p.toArray⟩) := hbx6.cell 0
       have n1 : w6.cell? ⟨bx, 1, none⟩ = some (.int .i64 kd) := hbx6.cell 1
       have n2 : w6.cell? ⟨bx, 2, none⟩ = some (.string ⟨da.toArray⟩) := hbx6.cell 2
       clear hbx6
       by_cases h4 : kd = 4
       ·have hb4 : (kd == 4) = true := by rw [h4]; rfl
        have hq7 : Hid (PkS w w.heap.size ba w.heap.size [(bx, #[.string ⟨p.toArray⟩, .int .i64 kd, .string ⟨da.toArray⟩])] (packP l) (putAll [[100, 105, 114]] ++ packGo (l.drop (k + 1)) (k + 1) (p :: s2)) s2.reverse w6) := by
         have h := hq6.out
         rw [← HR3.out, if_pos h4] at h
         exact h
        clear h4 hq6
        go_wp2_with fail
        refine (pk_put hq7.out [[100, 105, 114]] 1 _ _ rfl ?c1 rfl (by omega) (by omega) (by simp [roomOf])).mono ?_
        case c1 => rfl
        rintro e w7 ⟨rfl, hq⟩
        have hq8 := Lib.hid hq
        clear hq hq7
        go_wp2_with fail
        refine (pk_write _ hq8.out).mono ?_
        rintro e w8 ⟨rfl, hq⟩
        have hq9 := Lib.hid hq
        clear hq hq8 n0 n1 n2
        have n0 : w8.cell? ⟨bx, 0, none⟩ = some (.string ⟨p.toArray⟩) := (hq9.out.bx _ (List.mem_singleton.2 rfl)).cell 0
        obtain ⟨va, hva, hBa, hsl⟩ := hq9.out.sa
        obtain ⟨aa, ac, rfl, -, -⟩ := hsl.shape
        rw [List.length_reverse] at hva hsl
        have d0 : w8.cell? ⟨ba, 0, none⟩ = some (.slice aa s2.length ac) := hva.cell 0
        obtain ⟨i0, hi, hz0, hz1, hz2⟩ := info_parts infoStr
        have hs2k := HSS.out.1
        go_wp2_with (at_builtin; go_loud (refine wpList_append_sl rfl _ _ 26 26 rfl 9 i0 (.string ⟨#[]⟩) 1 16 Tryz.underlying26 hi hz0 hz1 hz2 rfl w.heap.size _ _ _ rfl _ rfl 1 [.string ⟨p.toArray⟩] ?c1 (hsl.alloc _) ?c2 ?c3 ?c4 ?_))
        case c1 => have := hq9.out.kp.size; simp; omega
        case c2 => exact Src.ofSl Tryz.underlying26 (Sl.of_new w8 0 (Nat.zero_le _) 9 1 1 [.string ⟨p.toArray⟩] rfl (by simp [maxLen])) (by simp [Value.oneCell'])
        case c3 => unfold maxLen; omega
        case c4 => omega
        intro v' w9 hs9 hk9 hb9
        obtain ⟨ao, cc, rfl, -, -⟩ := hs9.shape
        have hva9 := (hva.alloc (.cells #[.string ⟨p.toArray⟩] 9)).kp hk9 (.inr (by decide))
        have f9 := hva9.free 0
        have d9 : w9.cell? ⟨ba, 0, none⟩ = some (.slice aa s2.length ac) := hva9.cell 0
        have HQ : Hid (PkS w w.heap.size ba w.heap.size [(bx, #[.string ⟨p.toArray⟩, .int .i64 kd, .string ⟨da.toArray⟩])] (packP l) (packGo (l.drop (k + 1)) (k + 1) (p :: s2)) (p :: s2).reverse (w9.setCell ⟨ba, 0, none⟩ (.slice ao (s2.length + 1) cc))) := by
         obtain ⟨⟨out, hbu, ho⟩, hf, -, hkp, hbx⟩ := hq9.out
         have kA : Kp w.heap.size [9] w8 w9 := ((Kp.refl w.heap.size [9] w8).alloc (.cells #[.string ⟨p.toArray⟩] 9)).trans' hk9 (.inr ⟨Nat.le_refl _, by simp⟩)
         have kB : Kp w.heap.size [26] w9 (w9.setCell ⟨ba, 0, none⟩ (.slice ao (s2.length + 1) cc)) := (Kp.refl _ _ _).set hva9 (.inr ⟨hBa, by simp⟩) _ _
         have kC : Kp w.heap.size pkTs w8 (w9.setCell ⟨ba, 0, none⟩ (.slice ao (s2.length + 1) cc)) := (kA.mono (.inr ⟨Nat.le_refl _, by decide⟩)).trans (kB.mono (.inr ⟨Nat.le_refl _, by decide⟩))
         refine ⟨⟨out, (hbu.kp kA (.inr (by decide))).kp kB (.inr (by decide)), ho⟩, hf, ⟨_, hva9.set 0 _, hBa, ?_⟩, hkp.trans kC, fun x hx => (hbx x hx).kp kC (.inr (by decide))⟩
         have := hs9.kp kB (.inl (by decide))
         simpa [svs, sv] using this
        clear hb9 hsl hva hi hz0 hz1 hz2 hva9 hs9 hk9 d0 n0 hq9
        have hsp : Hid (Shorts (k + 1) (p :: s2)) := ⟨by simp; omega, by
         intro d hd
         rcases List.mem_cons.1 hd with rfl | hd
         ·exact HF.out.1
         ·exact HSS.out.2 d hd⟩
        go_wp2_with fail
        go_roundg (l.length - (k + 1))
        case measure => omega
        case rel => exact ⟨k + 1, p :: s2, hsp, by omega, rfl, by go_num, (show PkS _ _ _ _ _ _ _ _ _ from ⟨HQ.out.bu, HQ.out.ft, HQ.out.sa, HQ.out.kp, by simp⟩)⟩
       ·have hb4 : (kd == 4) = false := by rw [beq_eq_false_iff_ne]; exact h4
        by_cases h3 : kd = 3
        ·have hb3 : (kd == 3) = true := by rw [h3]; rfl
         have hq7 : Hid (PkS w w.heap.size ba w.heap.size [(bx, #[.string ⟨p.toArray⟩, .int .i64 kd, .string ⟨da.toArray⟩])] (packP l) (putAll [[108, 105, 110, 107], [116, 111], da, [41]] ++ (tailT k ++ packGo (l.drop (k + 1)) (k + 1) s2)) s2.reverse w6) := by
          have h := hq6.out
          rw [← HR3.out, if_neg h4, leafT, if_pos h3] at h
          exact h
         clear hq6 h4 h3
         go_wp2_with fail
         refine (pk_put hq7.out [[108, 105, 110, 107], [116, 111], da, [41]] 4 _ _ rfl ?c1 rfl (by omega) (by omega) ?c2).mono ?_
         case c1 => rfl
         case c2 =>
          have := HF.out.2
          simp only [roomOf, List.map_cons, List.sum_cons, List.length_cons, List.length_nil, List.map_nil, List.sum_nil]
          omega
         rintro e w7 ⟨rfl, hq⟩
         have hq8 := Lib.hid hq
         clear hq hq7
         go_wp2_with fail
         refine (pk_write _ hq8.out).mono ?_
         rintro e w8 ⟨rfl, hq⟩
         have hq9 := Lib.hid hq
         clear hq hq8 n0 n1 n2
         have hsp : Hid (Shorts (k + 1) s2) := ⟨by have := HSS.out.1; omega, HSS.out.2⟩
         by_cases hk0 : k = 0
         ·have hd : ¬ (0 < k) := by omega
          have hd2 : decide ((0 : Int) < (k : Int)) = false := by simp; omega
          have hqa : Hid (PkS w w.heap.size ba w.heap.size [(bx, #[.string ⟨p.toArray⟩, .int .i64 kd, .string ⟨da.toArray⟩])] (packP l) (packGo (l.drop (k + 1)) (k + 1) s2) s2.reverse w8) := by
           have h := hq9.out
           unfold tailT at h
           rw [if_pos hk0] at h
           exact h
          clear hk0 hq9
          go_wp2_with fail
          go_roundg (l.length - (k + 1))
          case measure => omega
          case rel => exact ⟨k + 1, s2, hsp, by omega, rfl, by go_num, (show PkS _ _ _ _ _ _ _ _ _ from ⟨hqa.out.bu, hqa.out.ft, hqa.out.sa, hqa.out.kp, by simp⟩)⟩
         ·have hd : 0 < k := by omega
          have hd2 : decide ((0 : Int) < (k : Int)) = true := by simp; omega
          have hqa : Hid (PkS w w.heap.size ba w.heap.size [(bx, #[.string ⟨p.toArray⟩, .int .i64 kd, .string ⟨da.toArray⟩])] (packP l) (putAll [[41]] ++ packGo (l.drop (k + 1)) (k + 1) s2) s2.reverse w8) := by
           have h := hq9.out
           unfold tailT at h
           rw [if_neg hk0] at h
           exact h
          clear hk0 hq9
          go_wp2_with fail
          refine (pk_put hqa.out [[41]] 1 _ _ rfl ?c1 rfl (by omega) (by omega) (by simp [roomOf])).mono ?_
          case c1 => rfl
          rintro e w9 ⟨rfl, hq⟩
          have hqb := Lib.hid hq
          clear hq hqa
          go_wp2_with fail
          refine (pk_write _ hqb.out).mono ?_
          rintro e wa ⟨rfl, hq⟩
          have hqc := Lib.hid hq
          clear hq hqb
          go_wp2_with fail
          go_roundg (l.length - (k + 1))
          case measure => omega
          case rel => exact ⟨k + 1, s2, hsp, by omega, rfl, by go_num, (show PkS _ _ _ _ _ _ _ _ _ from ⟨hqc.out.bu, hqc.out.ft, hqc.out.sa, hqc.out.kp, by simp⟩)⟩
        ·have hb3 : (kd == 3) = false := by rw [beq_eq_false_iff_ne]; exact h3
         by_cases h2 : kd = 2
         ·have hb2 : (kd == 2) = true := by rw [h2]; rfl
          have hq7 : Hid (PkS w w.heap.size ba w.heap.size [(bx, #[.string ⟨p.toArray⟩, .int .i64 kd, .string ⟨da.toArray⟩])] (packP l) (putAll [[102, 105, 108, 101], [101, 120, 101, 99], [], [100, 97, 116, 97], da, [41]] ++ (tailT k ++ packGo (l.drop (k + 1)) (k + 1) s2)) s2.reverse w6) := by
           have h := hq6.out
           rw [← HR3.out, if_neg h4, leafT, if_neg h3, if_pos h2] at h
           exact h
          clear hq6 h4 h3 h2
          go_wp2_with fail
          refine (pk_put hq7.out [[102, 105, 108, 101], [101, 120, 101, 99], [], [100, 97, 116, 97], da, [41]] 6 _ _ rfl ?c1 rfl (by omega) (by omega) ?c2).mono ?_
          case c1 => rfl
          case c2 =>
           have := HF.out.2
           simp only [roomOf, List.map_cons, List.sum_cons, List.length_cons, List.length_nil, List.map_nil, List.sum_nil]
           omega
          rintro e w7 ⟨rfl, hq⟩
          have hq8 := Lib.hid hq
          clear hq hq7
          go_wp2_with fail
          refine (pk_write _ hq8.out).mono ?_
          rintro e w8 ⟨rfl, hq⟩
          have hq9 := Lib.hid hq
          clear hq hq8 n0 n1 n2
          have hsp : Hid (Shorts (k + 1) s2) := ⟨by have := HSS.out.1; omega, HSS.out.2⟩
          by_cases hk0 : k = 0
          ·have hd : ¬ (0 < k) := by omega
           have hd2 : decide ((0 : Int) < (k : Int)) = false := by simp; omega
           have hqa : Hid (PkS w w.heap.size ba w.heap.size [(bx, #[.string ⟨p.toArray⟩, .int .i64 kd, .string ⟨da.toArray⟩])] (packP l) (packGo (l.drop (k + 1)) (k + 1) s2) s2.reverse w8) := by
            have h := hq9.out
            unfold tailT at h
            rw [if_pos hk0] at h
            exact h
           clear hk0 hq9
           go_wp2_with fail
           go_roundg (l.length - (k + 1))
           case measure => omega
           case rel => exact ⟨k + 1, s2, hsp, by omega, rfl, by go_num, (show PkS _ _ _ _ _ _ _ _ _ from ⟨hqa.out.bu, hqa.out.ft, hqa.out.sa, hqa.out.kp, by simp⟩)⟩
          ·have hd : 0 < k := by omega
           have hd2 : decide ((0 : Int) < (k : Int)) = true := by simp; omega
           have hqa : Hid (PkS w w.heap.size ba w.heap.size [(bx, #[.string ⟨p.toArray⟩, .int .i64 kd, .string ⟨da.toArray⟩])] (packP l) (putAll [[41]] ++ packGo (l.drop (k + 1)) (k + 1) s2) s2.reverse w8) := by
            have h := hq9.out
            unfold tailT at h
            rw [if_neg hk0] at h
            exact h
           clear hk0 hq9
           go_wp2_with fail
           refine (pk_put hqa.out [[41]] 1 _ _ rfl ?c1 rfl (by omega) (by omega) (by simp [roomOf])).mono ?_
           case c1 => rfl
           rintro e w9 ⟨rfl, hq⟩
           have hqb := Lib.hid hq
           clear hq hqa
           go_wp2_with fail
           refine (pk_write _ hqb.out).mono ?_
           rintro e wa ⟨rfl, hq⟩
           have hqc := Lib.hid hq
           clear hq hqb
           go_wp2_with fail
           go_roundg (l.length - (k + 1))
           case measure => omega
           case rel => exact ⟨k + 1, s2, hsp, by omega, rfl, by go_num, (show PkS _ _ _ _ _ _ _ _ _ from ⟨hqc.out.bu, hqc.out.ft, hqc.out.sa, hqc.out.kp, by simp⟩)⟩
         ·have hb2 : (kd == 2) = false := by rw [beq_eq_false_iff_ne]; exact h2
          have hq7 : Hid (PkS w w.heap.size ba w.heap.size [(bx, #[.string ⟨p.toArray⟩, .int .i64 kd, .string ⟨da.toArray⟩])] (packP l) (putAll [[102, 105, 108, 101], [100, 97, 116, 97], da, [41]] ++ (tailT k ++ packGo (l.drop (k + 1)) (k + 1) s2)) s2.reverse w6) := by
           have h := hq6.out
           rw [← HR3.out, if_neg h4, leafT, if_neg h3, if_neg h2] at h
           exact h
          clear hq6 h4 h3 h2
          go_wp2_with fail
          refine (pk_put hq7.out [[102, 105, 108, 101], [100, 97, 116, 97], da, [41]] 4 _ _ rfl ?c1 rfl (by omega) (by omega) ?c2).mono ?_
          case c1 => rfl
          case c2 =>
           have := HF.out.2
           simp only [roomOf, List.map_cons, List.sum_cons, List.length_cons, List.length_nil, List.map_nil, List.sum_nil]
           omega
          rintro e w7 ⟨rfl, hq⟩
          have hq8 := Lib.hid hq
          clear hq hq7
          go_wp2_with fail
          refine (pk_write _ hq8.out).mono ?_
          rintro e w8 ⟨rfl, hq⟩
          have hq9 := Lib.hid hq
          clear hq hq8 n0 n1 n2
          have hsp : Hid (Shorts (k + 1) s2) := ⟨by have := HSS.out.1; omega, HSS.out.2⟩
          by_cases hk0 : k = 0
          ·have hd : ¬ (0 < k) := by omega
           have hd2 : decide ((0 : Int) < (k : Int)) = false := by simp; omega
           have hqa : Hid (PkS w w.heap.size ba w.heap.size [(bx, #[.string ⟨p.toArray⟩, .int .i64 kd, .string ⟨da.toArray⟩])] (packP l) (packGo (l.drop (k + 1)) (k + 1) s2) s2.reverse w8) := by
            have h := hq9.out
            unfold tailT at h
            rw [if_pos hk0] at h
            exact h
           clear hk0 hq9
           go_wp2_with fail
           go_roundg (l.length - (k + 1))
           case measure => omega
           case rel => exact ⟨k + 1, s2, hsp, by omega, rfl, by go_num, (show PkS _ _ _ _ _ _ _ _ _ from ⟨hqa.out.bu, hqa.out.ft, hqa.out.sa, hqa.out.kp, by simp⟩)⟩
          ·have hd : 0 < k := by omega
           have hd2 : decide ((0 : Int) < (k : Int)) = true := by simp; omega
           have hqa : Hid (PkS w w.heap.size ba w.heap.size [(bx, #[.string ⟨p.toArray⟩, .int .i64 kd, .string ⟨da.toArray⟩])] (packP l) (putAll [[41]] ++ packGo (l.drop (k + 1)) (k + 1) s2) s2.reverse w8) := by
            have h := hq9.out
            unfold tailT at h
            rw [if_neg hk0] at h
            exact h
           clear hk0 hq9
           go_wp2_with fail
           refine (pk_put hqa.out [[41]] 1 _ _ rfl ?c1 rfl (by omega) (by omega) (by simp [roomOf])).mono ?_
           case c1 => rfl
           rintro e w9 ⟨rfl, hq⟩
           have hqb := Lib.hid hq
           clear hq hqa
           go_wp2_with fail
           refine (pk_write _ hqb.out).mono ?_
           rintro e wa ⟨rfl, hq⟩
           have hqc := Lib.hid hq
           clear hq hqb
           go_wp2_with fail
           go_roundg (l.length - (k + 1))
           case measure => omega
           case rel => exact ⟨k + 1, s2, hsp, by omega, rfl, by go_num, (show PkS _ _ _ _ _ _ _ _ _ from ⟨hqc.out.bu, hqc.out.ft, hqc.out.sa, hqc.out.kp, by simp⟩)⟩
  ·have hp3 : Hid (PkS w w.heap.size ba w.heap.size [] (packP l) (unwindAll st) st.reverse wr) := by
    have := hp.out
    rw [show l.drop k = [] from List.drop_eq_nil_of_le (by omega)] at this
    exact this
   clear hp
   go_wp2_with fail
   go_loopg [] st.length (fun gj wq => ∃ (st' : List (List UInt8)), gj = st'.length ∧ Hid (PkS w w.heap.size ba w.heap.size [] (packP l) (unwindAll st') st'.reverse wq))
   case atStart => exact ⟨st, rfl, hp3⟩
   case round =>
    obtain ⟨st', rfl, hq⟩ := hrel
    clear hp3
    obtain ⟨va, hva, -, hsl⟩ := hq.out.sa
    obtain ⟨aa, ac, rfl, h1, h2⟩ := hsl.shape
    rw [List.length_reverse] at h1 hva
    have d0 : wr.cell? ⟨ba, 0, none⟩ = some (.slice aa st'.length ac) := hva.cell 0
    clear hva hsl
    rcases st' with _ | ⟨d, r⟩
    ·obtain ⟨out, hbu, ho⟩ := hq.out.bu
     simp only [unwindAll, List.append_nil] at ho
     have HO := Lib.hid ho
     have HK := Lib.hid hq.out.kp
     have HBU := Lib.hid hbu
     clear hbu ho
     go_wp2_with fail
     refine (bstring_any w.heap.size w.heap.size out wr HBU.out ?_).mono ?_
     ·rw [HO.out]
      exact packP_ne l
     rintro e w4 ⟨rfl, hb4⟩
     have HB4 := Lib.hid hb4
     clear hb4
     go_wp2_with fail
     go_ret
     rw [HO.out]
     exact ⟨rfl, Keeps.of_below ((HK.out.below (Nat.le_refl _)).trans HB4.out) (fun k hk _ => hk)⟩
    ·have hd : decide ((0 : Int) < ((d :: r).length : Int)) = true := by simp
     have hq' : Hid (PkS w w.heap.size ba w.heap.size [] (packP l) (closeT r.reverse ++ unwindAll r) (r.reverse ++ [d]) wr) := by
      have := hq.out
      rw [List.reverse_cons] at this
      have e : closeT r.reverse = closeT r := by unfold closeT; simp
      rw [e]
      exact this
     clear hq
     go_wp2_with fail
     refine (close_any r.reverse d hq'.out).mono ?_
     rintro e w4 ⟨rfl, hq4⟩
     have HQ4 := Lib.hid hq4
     clear hq4 hq' d0
     go_wp2_with fail
     go_roundg r.length
     case measure => simp
     case rel => exact ⟨r, rfl, HQ4⟩
end Go.Proofs.YtdkogijdfgfpeaaGreatDoor

/- (*tree.Parser).Tree: the strings of a tree must come. -/
import Derived.Test.YtdkogijdfgfpeaaGreatDoorVPKind
import Derived.Test.YtdkogijdfgfpeaaGreatDoorVMap
import Derived.Test.YtdkogijdfgfpeaaGreatDoorVPKeep
set_option linter.unusedVariables false
namespace Go.Proofs.YtdkogijdfgfpeaaGreatDoor
open Go Go.RowKit
def clearP (σ : PSt) : PSt := { σ with nodes := [], above := [], path := [] }
set_option maxHeartbeats 1600000 in
set_option maxRecDepth 100000 in
theorem tree_any {B b : Nat} {tail : PT} {ts : List (Job × Value)} {σ : PSt} {w : World} (h : PA B b tail ts σ w) (ht : ts.length ≤ 1099511627000) :
 Calls Tryz.prog 115 #[.pointer (some ⟨b, 0, none⟩)] w fun ed w' => ed = .returned (.tuple #[]) ∧ (∃ us : List (Job × Value), (us.map Prod.fst).reverse = treeJobs ∧ PA B b tail (ts ++ us) (clearP σ) w') ∧ Kp B jobTs w w' := by
 obtain ⟨vr, vt, vl, va, h⟩ := h
 obtain ⟨g0, g1, g2, g3, g4, g5, g6, g7⟩ := pcells_get vr σ.at' σ.err σ.bad vt vl va σ.path tail.cells
 have c5 := (h.blk.cell 5).trans g5
 have c6 := (h.blk.cell 6).trans g6
 have c7 := (h.blk.cell 7).trans g7
 have f5 := h.blk.free 5
 have f6 := h.blk.free 6
 have f7 := h.blk.free 7
 have b1 := h.blk.set 5 (.slice none 0 0)
 rw [(pcells_set ..).2.2.2.2.2.1] at b1
 have b2 := b1.set 6 (.slice none 0 0)
 rw [(pcells_set ..).2.2.2.2.2.2.1] at b2
 have b3 := b2.set 7 (sv [])
 rw [(pcells_set ..).2.2.2.2.2.2.2] at b3
 have k3 := ((h.kpSet 5 (.slice none 0 0)).set b1 (.inr ⟨h.le, by simp⟩) 6 (.slice none 0 0)).set b2 (.inr ⟨h.le, by simp⟩) 7 (sv [])
 obtain ⟨p1, p2, -, -, p5, p6⟩ := h.parts k3
 have h3 : PAt B b tail ts (clearP σ) (((w.setCell ⟨b, 5, none⟩ (.slice none 0 0)).setCell ⟨b, 6, none⟩ (.slice none 0 0)).setCell ⟨b, 7, none⟩ (sv [])) vr vt (.slice none 0 0) (.slice none 0 0) := ⟨b3, h.le, p1, p2, Sl.nil _ _ _ _, Sl.nil _ _ _ _, p5, fun t ht => ⟨(p6 t ht).1, ahead_nil _ _ _ _⟩⟩
 have hown : ∀ k, vt.ownBlock = some k → k < w.heap.size := fun k hk => h.todo.own_lt hk
 have HOWN := Lib.hid hown
 have hsz3 : (((w.setCell ⟨b, 5, none⟩ (.slice none 0 0)).setCell ⟨b, 6, none⟩ (.slice none 0 0)).setCell ⟨b, 7, none⟩ (sv [])).heap.size = w.heap.size := by simp [World.setCell]
 have H3 := Lib.hid h3
 have K3 := Lib.hid k3
 clear g0 g1 g2 g3 g4 g5 g6 g7 b1 b2 b3 k3 h3 h p1 p2 p5 p6 hown
 unfold sv at H3 K3 c7 hsz3
 go_enter Tryz.func115, Tryz.ntmps115
 go_upto_region 1 with (fail)
 obtain ⟨i0, hi, hz0, hz1, hz2⟩ := info_parts infoWant
 have hbw := H3.out.blk.lt
 generalize ((w.setCell ⟨b, 5, none⟩ (.slice none 0 0)).setCell ⟨b, 6, none⟩ (.slice none 0 0)).setCell ⟨b, 7, none⟩ (.string ⟨#[]⟩) = w1 at *
 have HS3 := Lib.hid hsz3
 clear c5 c6 c7 f5 f6 f7 hsz3
 go_wp2_with fail
 refine (word_any b [wNar] .none _ _ (putArg w1 1 _ [wNar] _ rfl rfl rfl (by simp))).mono ?_
 rintro e w2 ⟨f1, rfl, hj2, hk2⟩
 have hk12 : Keeps Non w1 w2 := ((Keeps.refl _ _).alloc _).trans hk2 (fun k hk => .inl hk)
 have J2 := Lib.hid hj2
 have K2 := Lib.hid hk12
 clear hj2 hk2 hk12
 go_wp2_with fail
 have hw1 := wantArg (w := w2) [((.word [wNar] .none : Job), f1)] 1 _ _ rfl rfl rfl (by omega)
 refine (node_any b _).mono ?_
 rintro e w3 ⟨n1, n2, n3, bl, rfl, hsl3, hbl3, hj3, hk3⟩
 have hz := K2.out.size
 have HW1 : Hid (Sl w3 0 113 2 (.slice (some ⟨w2.heap.size, 0, none⟩) 1 1) 1 (wantCells [((.word [wNar] .none : Job), f1)])) := hw1.kp (Kp.of_keeps (B := 0) (Ts := []) hk3) (.inl (by simp))
 have hk23 : Keeps Non w2 w3 := ((Keeps.refl _ _).alloc _).trans hk3 (fun k hk => .inl hk)
 have K3' := Lib.hid (K2.out.trans hk23 (fun k hk => .inl hk))
 have J3 := Lib.hid (J2.out.keeps hk23)
 have HSL3 := Lib.hid hsl3
 have HJ3 := Lib.hid hj3
 have HSZ3 : Hid (w1.heap.size ≤ w3.heap.size) := K3'.out.size
 generalize w2.heap.size = z at *
 have HZ : Hid (w1.heap.size ≤ z) := hz
 clear hw1 hbl3 hk3 hk23 J2 K2 hsl3 hj3 hz
 go_wp2_with (at_builtin; refine wpList_append_own2 rfl _ _ 103 103 rfl 113 i0 _ 2 16 Tryz.underlying103 hi hz0 hz1 hz2 rfl 0 _ 1 (wantCells [((.word [wNar] .none : Job), f1)]) rfl _ rfl 3 (wantCells (nodeWs n1 n2 n3)) (Nat.zero_le _) HW1.out ?c2 ?c3 ?c4 ?_)
 case c2 => exact Src.ofSl Tryz.underlying103 HSL3.out (want_one (fun t ht => (HJ3.out t ht).one))
 case c3 => unfold maxLen; omega
 case c4 => omega
 intro ao cc w4 hs4 hk4 hkk4 hb4
 have sub : ∀ T ∈ ([113] : List TypeId), T ∈ paTs := by intro T hT; simp only [List.mem_singleton] at hT; subst hT; simp
 have K4 : Hid (Keeps Non w1 w4) := K3'.out.trans hkk4 (fun k hk => .inr (by cases hk; exact HZ.out))
 have HB4 : Hid (∀ k, (Value.slice ao (1 + 3) cc).ownBlock = some k → w1.heap.size ≤ k) := fun k hk => by
  rcases hb4 with e | e
  ·rw [e] at hk; cases hk; exact HZ.out
  ·rw [e] at hk; cases hk; exact HSZ3.out
 obtain ⟨us, hus⟩ : ∃ us : List (Job × Value), us = [((.word [wNar] .none : Job), f1)] ++ nodeWs n1 n2 n3 := ⟨_, rfl⟩
 have HJ4 : Hid (∀ t ∈ us, JobAt w4 b t.1 t.2) := by
  intro t ht
  refine JobAt.kp ?_ hk4 sub
  rw [hus] at ht
  rcases List.mem_append.1 ht with ht | ht
  ·obtain rfl := List.mem_singleton.1 ht
   exact J3.out
  ·exact HJ3.out t ht
 have hul : us.length = 1 + 3 := by rw [hus]; rfl
 have hs4' : Sl w4 0 113 2 (.slice ao (1 + 3) cc) us.length (wantCells us) := by
  rw [hul, hus, wantCells_append]
  exact hs4
 obtain ⟨bl2, ol2, cp2, hsh, -, -, -, -, -, -⟩ := hs4'.pos (by omega)
 rw [hul] at hsh
 cases hsh
 have hmap : us.map Prod.fst = treeJobs := by rw [hus]; rfl
 have HMAP := Lib.hid hmap
 have HUL := Lib.hid hul
 have hpl := plan_any (H3.out.keeps K4.out) us bl2 ol2 cc (by rw [hul] at hs4' ⊢; exact hs4') (by intro e; have h1 := HB4.out bl2 rfl; have h2 := HOWN.out bl2 e; have h3 := HS3.out; omega) HJ4.out (by rw [hul]; omega)
 have HPL := Lib.hid hpl
 clear hs4 hs4' hk4 hkk4 hb4 hus hul hmap hpl HB4 J3 HJ3 HJ4 HZ HSZ3 hi hz0 hz1 hz2 HW1 HSL3 K3'
 rw [HUL.out] at HPL
 go_wp2_with fail
 refine HPL.out.mono ?_
 rintro e w5 ⟨rfl, h5, k5⟩
 have H5 := Lib.hid h5
 have K5 : Hid (Kp B jobTs w w5) := ((K3.out.mono (.inr ⟨Nat.le_refl _, by simp⟩)).trans (Kp.of_keeps K4.out)).trans (k5.mono (.inr ⟨Nat.le_refl _, by simp⟩))
 clear h5 k5
 go_wp2_with fail
 go_end0
 refine ⟨rfl, ⟨us.reverse, ?_, H5.out⟩, K5.out⟩
 simp only [List.map_reverse, List.reverse_reverse]
 exact HMAP.out
abbrev TSr : TypeId := 9
def GE (B : Nat) : Nat → Prop := fun k => B ≤ k
theorem Kp.ge {B : Nat} {Ts : List TypeId} {w w' : World} (h : Kp B Ts w w') : Keeps (GE B) w w' :=
 ⟨h.os, h.tape, h.output, h.size, fun k hk hn => by
  rcases h.block k hk with e | ⟨hb, -⟩
  ·exact e
  ·exact absurd hb hn⟩
theorem Keeps.ge {B : Nat} {w w' : World} (h : Keeps Non w w') : Keeps (GE B) w w' := h.mono fun _ _ h => h.elim
theorem Keeps.gg {B : Nat} {a b c : World} (h : Keeps (GE B) a b) (k : Keeps (GE B) b c) : Keeps (GE B) a c := h.trans k fun _ h => .inl h
theorem MapAt.kp {w w' : World} {b B : Nat} {m : MapL} {Ts : List TypeId} (h : MapAt w b m) (k : Kp B Ts w w') : MapAt w' b m := by
 obtain ⟨es, clock, hb, hm⟩ := h
 refine ⟨es, clock, ?_, hm⟩
 rcases k.block b (Array.getElem?_eq_some_iff.1 hb).1 with e | ⟨-, c, c', T, -, b1, -⟩
 ·exact e.trans hb
 ·unfold Blk at b1
  rw [hb] at b1
  cases b1
structure CEnt (w : World) (B : Nat) (tail : PT) (vo vr : Value) (p : Nat) (e : Ent) : Prop where
 le : B ≤ p
 blk : ∃ vt ur, Blk w p #[sv (packP e.tree), vt, ur] TE ∧ (vt, e.tree) ∈ tail.trees ∧ Sl w B TSr 1 ur e.refs.length (svs e.refs) ∧ Ahead 1 vr ur ∧ ∀ k, ur.ownBlock = some k → vo.ownBlock ≠ some k
structure CMem (w : World) (B : Nat) (tail : PT) (x : CX) (mb : Nat) (vo vr : Value) (m : MapL) : Prop where
 le : B ≤ mb
 map : MapAt w mb m
 keys : (m.map Prod.fst).Perm (x.came.map Ent.path)
 ents : ∀ e ∈ x.came, ∃ p, getM m e.path = some (pv p) ∧ CEnt w B tail vo vr p e
 order : Sl w B TSr 1 vo x.order.length (svs x.order)
 refs : Sl w B TSr 1 vr x.refs.length (svs x.refs)
 apart : ∀ k, vr.ownBlock = some k → vo.ownBlock ≠ some k
 nil : x.refs = [] → vr = .slice none 0 0
structure CAt (w : World) (B : Nat) (tail : PT) (x : CX) (F : Nat → Prop) (s : Nat) : Prop where
 st : StoreAt w F s x.has
 low : ∀ k, F k → k < B
 mem : ∃ mb vo vr m, tail.cells = [pv s, .map (some mb), vo, sv x.name, vr] ∧ CMem w B tail x mb vo vr m
theorem CEnt.kp {w w' : World} {B : Nat} {tail : PT} {vo vr : Value} {p : Nat} {e : Ent} {Ts : List TypeId} (h : CEnt w B tail vo vr p e) (k : Kp B Ts w w') (h1 : TE ∉ Ts) (h2 : TSr ∉ Ts) : CEnt w' B tail vo vr p e := by
 obtain ⟨vt, ur, q1, q2, q3, q4, q5⟩ := h.blk
 exact ⟨h.le, vt, ur, q1.kp k (.inr h1), q2, q3.kp k (.inl h2), q4, q5⟩
theorem CMem.kp {w w' : World} {B : Nat} {tail : PT} {x : CX} {mb : Nat} {vo vr : Value} {m : MapL} {Ts : List TypeId} (h : CMem w B tail x mb vo vr m) (k : Kp B Ts w w') (h1 : TE ∉ Ts) (h2 : TSr ∉ Ts) : CMem w' B tail x mb vo vr m :=
 ⟨h.le, h.map.kp k, h.keys, fun e he => by
  obtain ⟨p, hp, hq⟩ := h.ents e he
  exact ⟨p, hp, hq.kp k h1 h2⟩, h.order.kp k (.inl h2), h.refs.kp k (.inl h2), h.apart, h.nil⟩
theorem CAt.kp {w w' : World} {B : Nat} {tail : PT} {x : CX} {F : Nat → Prop} {s : Nat} {Ts : List TypeId} (h : CAt w B tail x F s) (k : Kp B Ts w w') (h1 : TE ∉ Ts) (h2 : TSr ∉ Ts) : CAt w' B tail x F s := by
 obtain ⟨mb, vo, vr, m, q1, q2⟩ := h.mem
 exact ⟨h.st.keeps k.ge fun b hb hB => by have := h.low b hb; have : B ≤ b := hB; omega, h.low, mb, vo, vr, m, q1, q2.kp k h1 h2⟩
theorem CAt.non {w w' : World} {B : Nat} {tail : PT} {x : CX} {F : Nat → Prop} {s : Nat} (h : CAt w B tail x F s) (k : Keeps Non w w') : CAt w' B tail x F s := h.kp (Kp.of_keeps (B := B) (Ts := []) k) (by simp) (by simp)
theorem CAt.drewN {w : World} {B : Nat} {tail : PT} {x : CX} {F : Nat → Prop} {s : Nat} (h : CAt w B tail x F s) (n : Nat) : CAt (w.drewN n) B tail x F s := h.non ((Keeps.refl _ _).drewN n)
theorem tail_step {B b : Nat} {tail : PT} {ts : List (Job × Value)} {σ : PSt} {w : World} {vr vt vl va : Value} (H : PAt B b tail ts σ w vr vt vl va) (j : Nat) (d : Value) :
 PAt B b ⟨tail.cells.set j d, tail.trees⟩ ts σ (w.setCell ⟨b, j + 8, none⟩ d) vr vt vl va ∧ Kp B [TB] w (w.setCell ⟨b, j + 8, none⟩ d) := by
 have k := H.kpSet (j + 8) d
 have b1 := H.blk.set (j + 8) d
 have e : (pcells vr (σ.at' : Int) σ.err σ.bad vt vl va σ.path tail.cells).setIfInBounds (j + 8) d = pcells vr (σ.at' : Int) σ.err σ.bad vt vl va σ.path (tail.cells.set j d) := by
  simp only [pcells, List.setIfInBounds_toArray]
  rfl
 rw [e] at b1
 obtain ⟨p1, p2, p3, p4, p5, p6⟩ := H.parts k
 exact ⟨⟨b1, H.le, p1, p2, p3, p4, p5, p6⟩, k⟩
theorem tail_cell {B b : Nat} {tail : PT} {ts : List (Job × Value)} {σ : PSt} {w : World} {vr vt vl va : Value} (H : PAt B b tail ts σ w vr vt vl va) (j : Nat) : w.cell? ⟨b, j + 8, none⟩ = tail.cells[j]? ∧ w.frozen? ⟨b, j + 8, none⟩ = false := by
 refine ⟨(H.blk.cell _).trans ?_, H.blk.free _⟩
 simp [pcells]
theorem JobFar.kp {w w' : World} {b B : Nat} {v f : Value} {Ts : List TypeId} (hj : JobAt w b moreJob f) (h : JobFar w v f) (k : Kp B Ts w w') (hT : 26 ∉ Ts) : JobFar w' v f := by
 intro bm bp bt vm hfv hbv
 obtain ⟨bm0, bp0, bt0, vm0, hf0, hb0, -⟩ := hj
 rw [hf0] at hfv
 have e1 : bm0 = bm := by simp at hfv; exact hfv.1
 subst e1
 have h2 := (hb0.kp k (.inr hT)).inj hbv
 have e2 : vm = vm0 := by simpa using h2.1.symm
 subst e2
 exact h _ _ _ _ hf0 hb0
def FarM (w : World) (cells : List Value) (ts : List (Job × Value)) : Prop := ∀ v, (cells[4]? = some v → ∀ t ∈ ts, t.1 = moreJob → JobFar w v t.2) ∧ (cells[2]? = some v → ∀ t ∈ ts, t.1 = nextJob → JobFar w v t.2)
theorem JobFar.kpN {w w' : World} {b B : Nat} {v f : Value} {Ts : List TypeId} {may : List (List UInt8)} {act : Act1} (hj : JobAt w b (.word may act) f) (h : JobFar w v f) (k : Kp B Ts w w') (hT : 26 ∉ Ts) : JobFar w' v f := by
 intro bm bp bt vm hfv hbv
 obtain ⟨bm0, bp0, bt0, vm0, hf0, hb0, -⟩ := hj
 rw [hf0] at hfv
 have e1 : bm0 = bm := by simp at hfv; exact hfv.1
 subst e1
 have h2 := (hb0.kp k (.inr hT)).inj hbv
 have e2 : vm = vm0 := by simpa using h2.1.symm
 subst e2
 exact h _ _ _ _ hf0 hb0
theorem FarM.kp {w w' : World} {B B' b : Nat} {tail : PT} {cells : List Value} {ts : List (Job × Value)} {σ : PSt} {Ts : List TypeId} (h0 : PA B b tail ts σ w) (h : FarM w cells ts) (k : Kp B' Ts w w') (hT : 26 ∉ Ts) : FarM w' cells ts := by
 obtain ⟨ur, ut, ul, ua, hpa⟩ := h0
 refine fun v => ⟨fun hv t ht he => ?_, fun hv t ht he => ?_⟩
 ·have hj := hpa.jobs t ht
  rw [he] at hj
  exact ((h v).1 hv t ht he).kpN hj k hT
 ·have hj := hpa.jobs t ht
  rw [he] at hj
  exact ((h v).2 hv t ht he).kpN hj k hT
theorem FarM.of_nil {w w' : World} {B : Nat} {tail : PT} {x : CX} {F : Nat → Prop} {s : Nat} (hc : CAt w B tail x F s) (hx : x.refs = []) (ts : List (Job × Value)) (hn : ∀ t ∈ ts, t.1 ≠ nextJob) : FarM w' tail.cells ts := by
 obtain ⟨mb, vo, vr, m, hcells, hmem⟩ := hc.mem
 rw [hmem.nil hx] at hcells
 rw [hcells]
 refine fun v => ⟨fun hv t ht he bm bp bt vm hfv hbv => ?_, fun hv t ht he => absurd he (hn t ht)⟩
 simp only [List.getElem?_cons_succ, List.getElem?_cons_zero, Option.some.injEq] at hv
 subst hv
 exact ahead_nil _ _ _ _
def DidX (B b : Nat) (ts : List (Job × Value)) (r : List Job × PSt) (F : Nat → Prop) (s : Nat) (w : World) (ed : Ending) (w' : World) : Prop :=
 ed = .returned (.tuple #[]) ∧ (∃ (us : List (Job × Value)) (tail' : PT), (us.map Prod.fst).reverse = r.1 ∧ PA B b tail' (ts ++ us) r.2 w' ∧ CAt w' B tail' r.2.x F s ∧ FarM w' tail'.cells (ts ++ us)) ∧ Keeps (GE B) w w'
theorem Did.x {B b : Nat} {tail : PT} {ts : List (Job × Value)} {σ : PSt} {r : List Job × PSt} {F : Nat → Prop} {s : Nat} {x : CX} {w w' : World} {ed : Ending} (h : Did B b tail ts r w ed w') (h0 : PA B b tail ts σ w) (hc : CAt w B tail x F s) (hf : FarM w tail.cells ts) (hx : r.2.x = x) : DidX B b ts r F s w ed w' := by
 obtain ⟨h1, ⟨us, h2, h3, hn⟩, h4⟩ := h
 refine ⟨h1, ⟨us, tail, h2, h3, ?_, ?_⟩, h4.ge⟩
 ·rw [hx]
  exact hc.kp h4 (by decide) (by decide)
 ·obtain ⟨mb, vo, vr, m, hcells, hmem⟩ := hc.mem
  refine fun v => ⟨fun hv t ht he => ?_, fun hv t ht he => ?_⟩
  ·rcases List.mem_append.1 ht with ht | ht
   ·exact ((hf.kp h0 h4 (by decide)) v).1 hv t ht he
   ·rw [hcells] at hv
    simp only [List.getElem?_cons_succ, List.getElem?_cons_zero, Option.some.injEq] at hv
    subst hv
    exact hn _ _ _ _ hmem.refs t ht (.inl he)
  ·rcases List.mem_append.1 ht with ht | ht
   ·exact ((hf.kp h0 h4 (by decide)) v).2 hv t ht he
   ·rw [hcells] at hv
    simp only [List.getElem?_cons_succ, List.getElem?_cons_zero, Option.some.injEq] at hv
    subst hv
    exact hn _ _ _ _ hmem.order t ht (.inr he)
theorem CMem.look {w : World} {B : Nat} {tail : PT} {x : CX} {mb : Nat} {vo vr : Value} {m : MapL} (h : CMem w B tail x mb vo vr m) (k : List UInt8) :
 (findE x.came k = none ∧ getM m k = none) ∨ ∃ e p, findE x.came k = some e ∧ e ∈ x.came ∧ e.path = k ∧ getM m k = some (pv p) := by
 cases hf : findE x.came k with
 | none =>
   left
   refine ⟨rfl, getM_none.2 fun y hy e2 => ?_⟩
   have h1 : y.1 ∈ x.came.map Ent.path := h.keys.mem_iff.1 (List.mem_map.2 ⟨y, hy, rfl⟩)
   obtain ⟨e, he, hex⟩ := List.mem_map.1 h1
   exact findE_none.1 hf e he (hex.trans e2)
 | some e =>
   right
   obtain ⟨he, rfl⟩ := findE_some hf
   obtain ⟨p, hp, -⟩ := h.ents e he
   exact ⟨e, p, rfl, he, rfl, hp⟩
theorem PA.upx {B b : Nat} {tail : PT} {ts : List (Job × Value)} {σ : PSt} {w : World} (h : PA B b tail ts σ w) (y : CX) : PA B b tail ts { σ with x := y } w := by
 obtain ⟨vr, vt, vl, va, h⟩ := h
 exact ⟨vr, vt, vl, va, h.blk, h.le, h.rest, h.todo, h.nodes, h.above, h.jobs, h.kept⟩
set_option maxHeartbeats 3200000 in
set_option maxRecDepth 100000 in
theorem cpath_any {B b : Nat} {tail : PT} {ts : List (Job × Value)} {σ : PSt} {w : World} {F : Nat → Prop} {s : Nat} (h : PA B b tail ts σ w) (hc : CAt w B tail σ.x F s) (nm : List UInt8) (hn : nm.length ≤ 1000) (p : Int) (ht : ts.length ≤ 1099511626000) (hts : ∀ t ∈ ts, t.1 ≠ nextJob) :
 Calls Tryz.prog 80 #[.pointer (some ⟨b, 0, none⟩), sv nm, .int .i64 p] w (DidX B b ts (doJob .cpath nm p σ) F s w) := by
 have H0 := Lib.hid h
 have C0 := Lib.hid hc
 have HTS := Lib.hid hts
 have HTE : Hid (Tryz.prog.underlying 82 = some (.map 9 81)) := Tryz.underlying82
 clear h hc hts
 unfold sv
 go_enter Tryz.func80, Tryz.ntmps80
 go_upto_block 0 with (fail)
 go_cut [] (fun wx => Hid (PA B b tail ts (σ.failIf (pathErr σ.x nm) p) wx) ∧ Hid (CAt wx B tail σ.x F s) ∧ Hid (Keeps (GE B) w wx))
 case first =>
  go_wp2_with fail
  refine (path_any ⟨nm.toArray⟩ w).mono ?_
  rintro e w1 ⟨rfl, hk1⟩
  have H1 := Lib.hid (H0.out.keeps hk1)
  have C1 := Lib.hid (C0.out.non hk1)
  have K1 : Hid (Keeps (GE B) w w1) := hk1.ge
  clear hk1
  have hpb : pathB (⟨nm.toArray⟩ : ByteArray).data.toList = pathB nm := rfl
  rw [hpb]
  by_cases hp : pathB nm = true
  ·rw [hp]
   obtain ⟨mb, vo, vr, m, hcells, hmem⟩ := C1.out.mem
   obtain ⟨ur, ut, ul, ua, hpa⟩ := H1.out
   have c9 := (tail_cell hpa 1).1
   rw [hcells] at c9
   simp only [List.getElem?_cons_zero, List.getElem?_cons_succ, Nat.reduceAdd] at c9
   have HMB := Lib.hid hmem.map
   rcases hmem.look nm with ⟨hf, hg⟩ | ⟨e, q, hf, -, -, hg⟩
   ·have HVAL : Hid ((getM m nm).getD (.pointer none) = .pointer none) := by show _ = _; rw [hg]; rfl
    have HE : Hid (pathErr σ.x nm = 0) := by show _ = _; unfold pathErr; rw [hp, hf]; rfl
    clear hf hg hpa hmem hcells hpb
    go_wp2_with (at_lookup; refine wpl_look _ rfl _ _ _ rfl _ _ HTE.out Tryz.underlying9 (.pointer none) (Tryz.zeroValue81 _) mb m rfl HMB.out nm rfl (by omega) ?_; rw [HVAL.out])
    go_meet
    rw [HE.out]
    exact ⟨H1, C1, K1⟩
   ·have HVAL : Hid ((getM m nm).getD (.pointer none) = .pointer (some ⟨q, 0, none⟩)) := by show _ = _; rw [hg]; rfl
    have HE : Hid (pathErr σ.x nm = 7) := by show _ = _; unfold pathErr; rw [hp, hf]; rfl
    clear hf hg hpa hmem hcells hpb
    go_wp2_with (at_lookup; refine wpl_look _ rfl _ _ _ rfl _ _ HTE.out Tryz.underlying9 (.pointer none) (Tryz.zeroValue81 _) mb m rfl HMB.out nm rfl (by omega) ?_; rw [HVAL.out])
    refine (fail_any H1.out 7 p).mono ?_
    rintro e w2 ⟨rfl, h2, k2⟩
    have H2 := Lib.hid h2
    have C2 := Lib.hid (C1.out.kp k2 (by decide) (by decide))
    have K2 := Lib.hid (K1.out.gg k2.ge)
    clear h2 k2
    go_wp2_with fail
    go_meet
    rw [HE.out]
    exact ⟨H2, C2, K2⟩
  ·have hp0 : pathB nm = false := by simpa using hp
   rw [hp0]
   have HE : Hid (pathErr σ.x nm = 11) := by show _ = _; unfold pathErr; rw [hp0]; rfl
   clear hp hp0 hpb
   go_wp2_with fail
   refine (fail_any H1.out 11 p).mono ?_
   rintro e w2 ⟨rfl, h2, k2⟩
   have H2 := Lib.hid h2
   have C2 := Lib.hid (C1.out.kp k2 (by decide) (by decide))
   have K2 := Lib.hid (K1.out.gg k2.ge)
   clear h2 k2
   go_wp2_with fail
   go_meet
   rw [HE.out]
   exact ⟨H2, C2, K2⟩
 case rest =>
  obtain ⟨H2, C2, K2⟩ := hcut
  generalize wc = w2 at *
  obtain ⟨σ2, hσ2⟩ : ∃ σ2, σ.failIf (pathErr σ.x nm) p = σ2 := ⟨_, rfl⟩
  rw [hσ2] at H2
  have HSS := Lib.hid hσ2
  obtain ⟨mb, vo, vr, m, hcells, hmem⟩ := C2.out.mem
  obtain ⟨ur, ut, ul, ua, hpa⟩ := H2.out
  have c11 := tail_cell hpa 3
  have c12 := tail_cell hpa 4
  rw [hcells] at c11 c12
  simp only [List.getElem?_cons_zero, List.getElem?_cons_succ, Nat.reduceAdd] at c11 c12
  obtain ⟨c11, f11⟩ := c11
  obtain ⟨c12, f12⟩ := c12
  have hs1 := tail_step hpa 3 (sv nm)
  have hs2 := tail_step hs1.1 4 (.slice none 0 0)
  have hk2 : Kp B [TB] w2 ((w2.setCell ⟨b, 11, none⟩ (sv nm)).setCell ⟨b, 12, none⟩ (.slice none 0 0)) := hs1.2.trans hs2.2
  have H3 : Hid (PA B b ⟨(tail.cells.set 3 (sv nm)).set 4 (.slice none 0 0), tail.trees⟩ ts σ2 ((w2.setCell ⟨b, 11, none⟩ (sv nm)).setCell ⟨b, 12, none⟩ (.slice none 0 0))) := ⟨_, _, _, _, hs2.1⟩
  have C3 : Hid (CAt ((w2.setCell ⟨b, 11, none⟩ (sv nm)).setCell ⟨b, 12, none⟩ (.slice none 0 0)) B ⟨(tail.cells.set 3 (sv nm)).set 4 (.slice none 0 0), tail.trees⟩ (σ.x.start nm) F s) := by
   have hcm := C2.out.kp hk2 (by decide) (by decide)
   obtain ⟨mb', vo', vr', m', q1, q2⟩ := hcm.mem
   refine ⟨hcm.st, hcm.low, mb', vo', .slice none 0 0, m', by rw [q1]; rfl, q2.le, q2.map, q2.keys, fun e he => ?_, q2.order, Sl.nil _ _ _ _, (fun k hk => by cases hk), fun _ => rfl⟩
   obtain ⟨p', hp', hq⟩ := q2.ents e he
   obtain ⟨vt, uu, r1, r2, r3, r4, r5⟩ := hq.blk
   exact ⟨p', hp', hq.le, vt, uu, r1, r2, r3, ahead_nil _ _ _ _, r5⟩
  have K3 := Lib.hid (K2.out.gg hk2.ge)
  clear hs1 hs2 hk2 hpa hmem hcells hσ2 H2 C2 K2
  unfold sv at H3 C3 K3
  go_upto_region 5 with (fail)
  generalize (w2.setCell ⟨b, 11, none⟩ (.string ⟨nm.toArray⟩)).setCell ⟨b, 12, none⟩ (.slice none 0 0) = w3 at *
  clear c11 c12 f11 f12
  have htl := ht
  go_cut [] (fun wx => ∃ us : List (Job × Value), Hid ((us.map Prod.fst).reverse = [.word [wRefs] .none, moreJob]) ∧ us.length = 2 ∧ Hid (PA B b ⟨(tail.cells.set 3 (.string ⟨nm.toArray⟩)).set 4 (.slice none 0 0), tail.trees⟩ (ts ++ us) σ2 wx) ∧ Hid (CAt wx B ⟨(tail.cells.set 3 (.string ⟨nm.toArray⟩)).set 4 (.slice none 0 0), tail.trees⟩ (σ.x.start nm) F s) ∧ Hid (Keeps (GE B) w wx))
  case first =>
   go_region_held3 (fun _ => True) (trivial) (first
    | (go_at_call 46
       fail_if_success (have hz9 := J1)
       refine (word_any b [wRefs] .none _ _ (by first | exact (putArg _ 1 _ [wRefs] _ (by first | rfl | simp) rfl rfl (by simp)) | exact ((putArg _ 1 _ [wRefs] _ (by first | rfl | simp) rfl rfl (by simp)).alloc _) | exact ((putArg _ 1 _ [wRefs] _ (by first | rfl | simp) rfl rfl (by simp)).drewN 1) | exact (((putArg _ 1 _ [wRefs] _ (by first | rfl | simp) rfl rfl (by simp)).alloc _).drewN 1) | exact (((putArg _ 1 _ [wRefs] _ (by first | rfl | simp) rfl rfl (by simp)).drewN 1).alloc _))).mono ?_
       rintro e w4 ⟨f1, rfl, hj1, hk1⟩
       have J1 := Lib.hid hj1
       have K4 : Hid (Keeps Non w3 w4) := Keeps.tn (by repeat (first | exact Keeps.refl _ _ | apply Keeps.alloc | apply Keeps.drew)) hk1)
    | (go_at_call 45
       refine (plan_new H5.out [(.word [wRefs] .none, f1), (moreJob, f2)] 2 _ _ rfl rfl rfl (by omega) (by intro t ht; simp only [List.mem_cons, List.not_mem_nil, or_false] at ht; rcases ht with rfl | rfl; exact J12.out; exact J2.out) (by omega)).mono ?_
       rintro e w6 ⟨rfl, h6, k6⟩)
    | (go_at_call 46
       refine (word_any b [wRef, wSum] .more _ _ (by first | exact (putArg _ 2 _ [wRef, wSum] _ (by first | rfl | simp) rfl rfl (by simp)) | exact ((putArg _ 2 _ [wRef, wSum] _ (by first | rfl | simp) rfl rfl (by simp)).alloc _) | exact ((putArg _ 2 _ [wRef, wSum] _ (by first | rfl | simp) rfl rfl (by simp)).drewN 1) | exact (((putArg _ 2 _ [wRef, wSum] _ (by first | rfl | simp) rfl rfl (by simp)).alloc _).drewN 1) | exact (((putArg _ 2 _ [wRef, wSum] _ (by first | rfl | simp) rfl rfl (by simp)).drewN 1).alloc _) | exact Sl.non (putArg _ 2 _ [wRef, wSum] _ (by first | rfl | simp) rfl rfl (by simp)) hk1 | exact Sl.non ((putArg _ 2 _ [wRef, wSum] _ (by first | rfl | simp) rfl rfl (by simp)).alloc _) hk1 | exact Sl.non ((putArg _ 2 _ [wRef, wSum] _ (by first | rfl | simp) rfl rfl (by simp)).drewN 1) hk1 | exact Sl.non (((putArg _ 2 _ [wRef, wSum] _ (by first | rfl | simp) rfl rfl (by simp)).alloc _).drewN 1) hk1 | exact Sl.non (((putArg _ 2 _ [wRef, wSum] _ (by first | rfl | simp) rfl rfl (by simp)).drewN 1).alloc _) hk1 | exact (Sl.non (putArg _ 2 _ [wRef, wSum] _ (by first | rfl | simp) rfl rfl (by simp)) hk1).drewN 1 | exact (Sl.non ((putArg _ 2 _ [wRef, wSum] _ (by first | rfl | simp) rfl rfl (by simp)).alloc _) hk1).drewN 1 | exact (Sl.non ((putArg _ 2 _ [wRef, wSum] _ (by first | rfl | simp) rfl rfl (by simp)).drewN 1) hk1).drewN 1 | exact (Sl.non (((putArg _ 2 _ [wRef, wSum] _ (by first | rfl | simp) rfl rfl (by simp)).alloc _).drewN 1) hk1).drewN 1 | exact (Sl.non (((putArg _ 2 _ [wRef, wSum] _ (by first | rfl | simp) rfl rfl (by simp)).drewN 1).alloc _) hk1).drewN 1)).mono ?_
       rintro e w5 ⟨f2, rfl, hj2, hk2⟩
       have hk2a : Keeps Non w4 w5 := Keeps.tn (by repeat (first | exact Keeps.refl _ _ | apply Keeps.alloc | apply Keeps.drew)) hk2
       have J2 := Lib.hid hj2
       have J12 := Lib.hid (J1.out.keeps hk2a)
       have K5 := Lib.hid (K4.out.tn hk2a)
       have H5 := Lib.hid (H3.out.keeps K5.out)))
   all_goals (
    go_wp2_with fail
    go_meet
    exact ⟨[(moreJob, f2), (.word [wRefs] .none, f1)], rfl, rfl, h6, ((C3.out.non K5.out).kp k6 (by decide) (by decide)), (K3.out.gg K5.out.ge).gg k6.ge⟩)
  case rest =>
   obtain ⟨us, HUS, hul, H4, C4, K4⟩ := hcut
   generalize wc = w4 at *
   go_wp2_with fail
   refine (tree_any H4.out (by rw [List.length_append, hul]; omega)).mono ?_
   rintro e w5 ⟨rfl, ⟨us2, hus2, h5⟩, k5⟩
   have HU2 := Lib.hid hus2
   have H5 := Lib.hid h5
   have C5 := Lib.hid (C4.out.kp k5 (by decide) (by decide))
   have K5 := Lib.hid (K4.out.gg k5.ge)
   clear hus2 h5 k5
   go_wp2_with fail
   go_end0
   refine ⟨rfl, ⟨us ++ us2, _, ?_, ?_, C5.out, FarM.of_nil C5.out rfl _ (fun t ht e => ?_)⟩, K5.out⟩
   ·rw [List.map_append, List.reverse_append, HU2.out, HUS.out]
    rfl
   ·have h6 := H5.out
    rw [List.append_assoc] at h6
    rw [← HSS.out] at h6
    exact h6.upx (σ.x.start nm)
   ·rcases List.mem_append.1 ht with ht | ht
    ·exact HTS.out t ht e
    ·have h1 : t.1 ∈ ((us ++ us2).map Prod.fst).reverse := List.mem_reverse.2 (List.mem_map.2 ⟨t, ht, rfl⟩)
     rw [List.map_append, List.reverse_append, HU2.out, HUS.out, e] at h1
     exact absurd h1 (by decide)
end Go.Proofs.YtdkogijdfgfpeaaGreatDoor

/- An import in memory: what stands behind the parser in its block. -/
import Derived.Test.YtdkogijdfgfpeaaGreatDoorMPFile
import Derived.Test.YtdkogijdfgfpeaaGreatDoorMMap
set_option linter.unusedVariables false
namespace Go.Proofs.YtdkogijdfgfpeaaGreatDoor
open Go Go.RowKit
abbrev TSr : TypeId := 9
def GE (B : Nat) : Nat → Prop := fun k => B ≤ k
theorem Kp.ge {B : Nat} {Ts : List TypeId} {w w' : World} (h : Kp B Ts w w') : Keeps (GE B) w w' :=
 ⟨h.os, h.tape, h.output, h.size, fun k hk hn => by
  rcases h.block k hk with e | ⟨hb, -⟩
  ·exact e
  ·exact absurd hb hn⟩
theorem Keeps.ge {B : Nat} {w w' : World} (h : Keeps Non w w') : Keeps (GE B) w w' := h.mono fun _ _ h => h.elim
theorem Keeps.gg {B : Nat} {a b c : World} (h : Keeps (GE B) a b) (k : Keeps (GE B) b c) : Keeps (GE B) a c := h.trans k fun _ h => .inl h
theorem MapAt.kp {w w' : World} {b B : Nat} {m : MapL} {Ts : List TypeId} (h : MapAt w b m) (k : Kp B Ts w w') : MapAt w' b m := by
 obtain ⟨es, clock, hb, hm⟩ := h
 refine ⟨es, clock, ?_, hm⟩
 rcases k.block b (Array.getElem?_eq_some_iff.1 hb).1 with e | ⟨-, c, c', T, -, b1, -⟩
 ·exact e.trans hb
 ·unfold Blk at b1
  rw [hb] at b1
  cases b1
structure CEnt (w : World) (B : Nat) (tail : PT) (vo vr : Value) (p : Nat) (e : Ent) : Prop where
 le : B ≤ p
 blk : ∃ vt ur, Blk w p #[sv (packP e.tree), vt, ur] TE ∧ (vt, e.tree) ∈ tail.trees ∧ Sl w B TSr 1 ur e.refs.length (svs e.refs) ∧ Ahead 1 vr ur ∧ ∀ k, ur.ownBlock = some k → vo.ownBlock ≠ some k
structure CMem (w : World) (B : Nat) (tail : PT) (x : CX) (mb : Nat) (vo vr : Value) (m : MapL) : Prop where
 le : B ≤ mb
 map : MapAt w mb m
 keys : (m.map Prod.fst).Perm (x.came.map Ent.path)
 ents : ∀ e ∈ x.came, ∃ p, getM m e.path = some (pv p) ∧ CEnt w B tail vo vr p e
 order : Sl w B TSr 1 vo x.order.length (svs x.order)
 refs : Sl w B TSr 1 vr x.refs.length (svs x.refs)
 apart : ∀ k, vr.ownBlock = some k → vo.ownBlock ≠ some k
 nil : x.refs = [] → vr = .slice none 0 0
structure CAt (w : World) (B : Nat) (tail : PT) (x : CX) (F : Nat → Prop) (s : Nat) : Prop where
 st : StoreAt w F s x.has
 low : ∀ k, F k → k < B
 mem : ∃ mb vo vr m, tail.cells = [pv s, .map (some mb), vo, sv x.name, vr] ∧ CMem w B tail x mb vo vr m
theorem CEnt.kp {w w' : World} {B : Nat} {tail : PT} {vo vr : Value} {p : Nat} {e : Ent} {Ts : List TypeId} (h : CEnt w B tail vo vr p e) (k : Kp B Ts w w') (h1 : TE ∉ Ts) (h2 : TSr ∉ Ts) : CEnt w' B tail vo vr p e := by
 obtain ⟨vt, ur, q1, q2, q3, q4, q5⟩ := h.blk
 exact ⟨h.le, vt, ur, q1.kp k (.inr h1), q2, q3.kp k (.inl h2), q4, q5⟩
theorem CMem.kp {w w' : World} {B : Nat} {tail : PT} {x : CX} {mb : Nat} {vo vr : Value} {m : MapL} {Ts : List TypeId} (h : CMem w B tail x mb vo vr m) (k : Kp B Ts w w') (h1 : TE ∉ Ts) (h2 : TSr ∉ Ts) : CMem w' B tail x mb vo vr m :=
 ⟨h.le, h.map.kp k, h.keys, fun e he => by
  obtain ⟨p, hp, hq⟩ := h.ents e he
  exact ⟨p, hp, hq.kp k h1 h2⟩, h.order.kp k (.inl h2), h.refs.kp k (.inl h2), h.apart, h.nil⟩
theorem CAt.kp {w w' : World} {B : Nat} {tail : PT} {x : CX} {F : Nat → Prop} {s : Nat} {Ts : List TypeId} (h : CAt w B tail x F s) (k : Kp B Ts w w') (h1 : TE ∉ Ts) (h2 : TSr ∉ Ts) : CAt w' B tail x F s := by
 obtain ⟨mb, vo, vr, m, q1, q2⟩ := h.mem
 exact ⟨h.st.keeps k.ge fun b hb hB => by have := h.low b hb; have : B ≤ b := hB; omega, h.low, mb, vo, vr, m, q1, q2.kp k h1 h2⟩
theorem CAt.non {w w' : World} {B : Nat} {tail : PT} {x : CX} {F : Nat → Prop} {s : Nat} (h : CAt w B tail x F s) (k : Keeps Non w w') : CAt w' B tail x F s := h.kp (Kp.of_keeps (B := B) (Ts := []) k) (by simp) (by simp)
theorem CAt.drewN {w : World} {B : Nat} {tail : PT} {x : CX} {F : Nat → Prop} {s : Nat} (h : CAt w B tail x F s) (n : Nat) : CAt (w.drewN n) B tail x F s := h.non ((Keeps.refl _ _).drewN n)
theorem tail_step {B b : Nat} {tail : PT} {ts : List (Job × Value)} {σ : PSt} {w : World} {vr vt vl va : Value} (H : PAt B b tail ts σ w vr vt vl va) (j : Nat) (d : Value) :
 PAt B b ⟨tail.cells.set j d, tail.trees⟩ ts σ (w.setCell ⟨b, j + 8, none⟩ d) vr vt vl va ∧ Kp B [TB] w (w.setCell ⟨b, j + 8, none⟩ d) := by
 have k := H.kpSet (j + 8) d
 have b1 := H.blk.set (j + 8) d
 have e : (pcells vr (σ.at' : Int) σ.err σ.bad vt vl va σ.path tail.cells).setIfInBounds (j + 8) d = pcells vr (σ.at' : Int) σ.err σ.bad vt vl va σ.path (tail.cells.set j d) := by
  simp only [pcells, List.setIfInBounds_toArray]
  rfl
 rw [e] at b1
 obtain ⟨p1, p2, p3, p4, p5, p6⟩ := H.parts k
 exact ⟨⟨b1, H.le, p1, p2, p3, p4, p5, p6⟩, k⟩
theorem tail_cell {B b : Nat} {tail : PT} {ts : List (Job × Value)} {σ : PSt} {w : World} {vr vt vl va : Value} (H : PAt B b tail ts σ w vr vt vl va) (j : Nat) : w.cell? ⟨b, j + 8, none⟩ = tail.cells[j]? ∧ w.frozen? ⟨b, j + 8, none⟩ = false := by
 refine ⟨(H.blk.cell _).trans ?_, H.blk.free _⟩
 simp [pcells]
theorem JobFar.kp {w w' : World} {b B : Nat} {v f : Value} {Ts : List TypeId} (hj : JobAt w b moreJob f) (h : JobFar w v f) (k : Kp B Ts w w') (hT : 26 ∉ Ts) : JobFar w' v f := by
 intro bm bp bt vm hfv hbv
 obtain ⟨bm0, bp0, bt0, vm0, hf0, hb0, -⟩ := hj
 rw [hf0] at hfv
 have e1 : bm0 = bm := by simp at hfv; exact hfv.1
 subst e1
 have h2 := (hb0.kp k (.inr hT)).inj hbv
 have e2 : vm = vm0 := by simpa using h2.1.symm
 subst e2
 exact h _ _ _ _ hf0 hb0
def FarM (w : World) (cells : List Value) (ts : List (Job × Value)) : Prop := ∀ v, (cells[4]? = some v → ∀ t ∈ ts, t.1 = moreJob → JobFar w v t.2) ∧ (cells[2]? = some v → ∀ t ∈ ts, t.1 = nextJob → JobFar w v t.2)
theorem JobFar.kpN {w w' : World} {b B : Nat} {v f : Value} {Ts : List TypeId} {may : List (List UInt8)} {act : Act1} (hj : JobAt w b (.word may act) f) (h : JobFar w v f) (k : Kp B Ts w w') (hT : 26 ∉ Ts) : JobFar w' v f := by
 intro bm bp bt vm hfv hbv
 obtain ⟨bm0, bp0, bt0, vm0, hf0, hb0, -⟩ := hj
 rw [hf0] at hfv
 have e1 : bm0 = bm := by simp at hfv; exact hfv.1
 subst e1
 have h2 := (hb0.kp k (.inr hT)).inj hbv
 have e2 : vm = vm0 := by simpa using h2.1.symm
 subst e2
 exact h _ _ _ _ hf0 hb0
theorem FarM.kp {w w' : World} {B B' b : Nat} {tail : PT} {cells : List Value} {ts : List (Job × Value)} {σ : PSt} {Ts : List TypeId} (h0 : PA B b tail ts σ w) (h : FarM w cells ts) (k : Kp B' Ts w w') (hT : 26 ∉ Ts) : FarM w' cells ts := by
 obtain ⟨ur, ut, ul, ua, hpa⟩ := h0
 refine fun v => ⟨fun hv t ht he => ?_, fun hv t ht he => ?_⟩
 ·have hj := hpa.jobs t ht
  rw [he] at hj
  exact ((h v).1 hv t ht he).kpN hj k hT
 ·have hj := hpa.jobs t ht
  rw [he] at hj
  exact ((h v).2 hv t ht he).kpN hj k hT
theorem FarM.of_nil {w w' : World} {B : Nat} {tail : PT} {x : CX} {F : Nat → Prop} {s : Nat} (hc : CAt w B tail x F s) (hx : x.refs = []) (ts : List (Job × Value)) (hn : ∀ t ∈ ts, t.1 ≠ nextJob) : FarM w' tail.cells ts := by
 obtain ⟨mb, vo, vr, m, hcells, hmem⟩ := hc.mem
 rw [hmem.nil hx] at hcells
 rw [hcells]
 refine fun v => ⟨fun hv t ht he bm bp bt vm hfv hbv => ?_, fun hv t ht he => absurd he (hn t ht)⟩
 simp only [List.getElem?_cons_succ, List.getElem?_cons_zero, Option.some.injEq] at hv
 subst hv
 exact ahead_nil _ _ _ _
def DidX (B b : Nat) (ts : List (Job × Value)) (r : List Job × PSt) (F : Nat → Prop) (s : Nat) (w : World) (ed : Ending) (w' : World) : Prop :=
 ed = .returned (.tuple #[]) ∧ (∃ (us : List (Job × Value)) (tail' : PT), (us.map Prod.fst).reverse = r.1 ∧ PA B b tail' (ts ++ us) r.2 w' ∧ CAt w' B tail' r.2.x F s ∧ FarM w' tail'.cells (ts ++ us)) ∧ Keeps (GE B) w w'
theorem Did.x {B b : Nat} {tail : PT} {ts : List (Job × Value)} {σ : PSt} {r : List Job × PSt} {F : Nat → Prop} {s : Nat} {x : CX} {w w' : World} {ed : Ending} (h : Did B b tail ts r w ed w') (h0 : PA B b tail ts σ w) (hc : CAt w B tail x F s) (hf : FarM w tail.cells ts) (hx : r.2.x = x) : DidX B b ts r F s w ed w' := by
 obtain ⟨h1, ⟨us, h2, h3, hn⟩, h4⟩ := h
 refine ⟨h1, ⟨us, tail, h2, h3, ?_, ?_⟩, h4.ge⟩
 ·rw [hx]
  exact hc.kp h4 (by decide) (by decide)
 ·obtain ⟨mb, vo, vr, m, hcells, hmem⟩ := hc.mem
  refine fun v => ⟨fun hv t ht he => ?_, fun hv t ht he => ?_⟩
  ·rcases List.mem_append.1 ht with ht | ht
   ·exact ((hf.kp h0 h4 (by decide)) v).1 hv t ht he
   ·rw [hcells] at hv
    simp only [List.getElem?_cons_succ, List.getElem?_cons_zero, Option.some.injEq] at hv
    subst hv
    exact hn _ _ _ _ hmem.refs t ht (.inl he)
  ·rcases List.mem_append.1 ht with ht | ht
   ·exact ((hf.kp h0 h4 (by decide)) v).2 hv t ht he
   ·rw [hcells] at hv
    simp only [List.getElem?_cons_succ, List.getElem?_cons_zero, Option.some.injEq] at hv
    subst hv
    exact hn _ _ _ _ hmem.order t ht (.inr he)
theorem CMem.look {w : World} {B : Nat} {tail : PT} {x : CX} {mb : Nat} {vo vr : Value} {m : MapL} (h : CMem w B tail x mb vo vr m) (k : List UInt8) :
 (findE x.came k = none ∧ getM m k = none) ∨ ∃ e p, findE x.came k = some e ∧ e ∈ x.came ∧ e.path = k ∧ getM m k = some (pv p) := by
 cases hf : findE x.came k with
 | none =>
   left
   refine ⟨rfl, getM_none.2 fun y hy e2 => ?_⟩
   have h1 : y.1 ∈ x.came.map Ent.path := h.keys.mem_iff.1 (List.mem_map.2 ⟨y, hy, rfl⟩)
   obtain ⟨e, he, hex⟩ := List.mem_map.1 h1
   exact findE_none.1 hf e he (hex.trans e2)
 | some e =>
   right
   obtain ⟨he, rfl⟩ := findE_some hf
   obtain ⟨p, hp, -⟩ := h.ents e he
   exact ⟨e, p, rfl, he, rfl, hp⟩
theorem PA.upx {B b : Nat} {tail : PT} {ts : List (Job × Value)} {σ : PSt} {w : World} (h : PA B b tail ts σ w) (y : CX) : PA B b tail ts { σ with x := y } w := by
 obtain ⟨vr, vt, vl, va, h⟩ := h
 exact ⟨vr, vt, vl, va, h.blk, h.le, h.rest, h.todo, h.nodes, h.above, h.jobs, h.kept⟩
set_option maxHeartbeats 3200000 in
set_option maxRecDepth 100000 in
theorem cpath_any {B b : Nat} {tail : PT} {ts : List (Job × Value)} {σ : PSt} {w : World} {F : Nat → Prop} {s : Nat} (h : PA B b tail ts σ w) (hc : CAt w B tail σ.x F s) (nm : List UInt8) (hn : nm.length ≤ 1000) (p : Int) (ht : ts.length ≤ 1099511626000) (hts : ∀ t ∈ ts, t.1 ≠ nextJob) :
 Calls Tryz.prog 80 #[.pointer (some ⟨b, 0, none⟩), sv nm, .int .i64 p] w (DidX B b ts (doJob .cpath nm p σ) F s w) := by
 have H0 := Lib.hid h
 have C0 := Lib.hid hc
 have HTS := Lib.hid hts
 have HTE : Hid (Tryz.prog.underlying 82 = some (.map 9 81)) := Tryz.underlying82
 clear h hc hts
 unfold sv
 go_enter Tryz.func80, Tryz.ntmps80
 go_upto_block 0 with (fail)
 go_cut [] (fun wx => Hid (PA B b tail ts (σ.failIf (pathErr σ.x nm) p) wx) ∧ Hid (CAt wx B tail σ.x F s) ∧ Hid (Keeps (GE B) w wx))
 case first =>
  go_wp2_with fail
  refine (path_any ⟨nm.toArray⟩ w).mono ?_
  rintro e w1 ⟨rfl, hk1⟩
  have H1 := Lib.hid (H0.out.keeps hk1)
  have C1 := Lib.hid (C0.out.non hk1)
  have K1 : Hid (Keeps (GE B) w w1) := hk1.ge
  clear hk1
  have hpb : pathB (⟨nm.toArray⟩ : ByteArray).data.toList = pathB nm := rfl
  rw [hpb]
  by_cases hp : pathB nm = true
  ·rw [hp]
   obtain ⟨mb, vo, vr, m, hcells, hmem⟩ := C1.out.mem
   obtain ⟨ur, ut, ul, ua, hpa⟩ := H1.out
   have c9 := (tail_cell hpa 1).1
   rw [hcells] at c9
   simp only [List.getElem?_cons_zero, List.getElem?_cons_succ, Nat.reduceAdd] at c9
   have HMB := Lib.hid hmem.map
   rcases hmem.look nm with ⟨hf, hg⟩ | ⟨e, q, hf, -, -, hg⟩
   ·have HVAL : Hid ((getM m nm).getD (.pointer none) = .pointer none) := by show _ = _; rw [hg]; rfl
    have HE : Hid (pathErr σ.x nm = 0) := by show _ = _; unfold pathErr; rw [hp, hf]; rfl
    clear hf hg hpa hmem hcells hpb
    go_wp2_with (at_lookup; refine wpl_look _ rfl _ _ _ rfl _ _ HTE.out Tryz.underlying9 (.pointer none) (Tryz.zeroValue81 _) mb m rfl HMB.out nm rfl (by omega) ?_; rw [HVAL.out])
    go_meet
    rw [HE.out]
    exact ⟨H1, C1, K1⟩
   ·have HVAL : Hid ((getM m nm).getD (.pointer none) = .pointer (some ⟨q, 0, none⟩)) := by show _ = _; rw [hg]; rfl
    have HE : Hid (pathErr σ.x nm = 7) := by show _ = _; unfold pathErr; rw [hp, hf]; rfl
    clear hf hg hpa hmem hcells hpb
    go_wp2_with (at_lookup; refine wpl_look _ rfl _ _ _ rfl _ _ HTE.out Tryz.underlying9 (.pointer none) (Tryz.zeroValue81 _) mb m rfl HMB.out nm rfl (by omega) ?_; rw [HVAL.out])
    refine (fail_any H1.out 7 p).mono ?_
    rintro e w2 ⟨rfl, h2, k2⟩
    have H2 := Lib.hid h2
    have C2 := Lib.hid (C1.out.kp k2 (by decide) (by decide))
    have K2 := Lib.hid (K1.out.gg k2.ge)
    clear h2 k2
    go_wp2_with fail
    go_meet
    rw [HE.out]
    exact ⟨H2, C2, K2⟩
  ·have hp0 : pathB nm = false := by simpa using hp
   rw [hp0]
   have HE : Hid (pathErr σ.x nm = 11) := by show _ = _; unfold pathErr; rw [hp0]; rfl
   clear hp hp0 hpb
   go_wp2_with fail
   refine (fail_any H1.out 11 p).mono ?_
   rintro e w2 ⟨rfl, h2, k2⟩
   have H2 := Lib.hid h2
   have C2 := Lib.hid (C1.out.kp k2 (by decide) (by decide))
   have K2 := Lib.hid (K1.out.gg k2.ge)
   clear h2 k2
   go_wp2_with fail
   go_meet
   rw [HE.out]
   exact ⟨H2, C2, K2⟩
 case rest =>
  obtain ⟨H2, C2, K2⟩ := hcut
  generalize wc = w2 at *
  obtain ⟨σ2, hσ2⟩ : ∃ σ2, σ.failIf (pathErr σ.x nm) p = σ2 := ⟨_, rfl⟩
  rw [hσ2] at H2
  have HSS := Lib.hid hσ2
  obtain ⟨mb, vo, vr, m, hcells, hmem⟩ := C2.out.mem
  obtain ⟨ur, ut, ul, ua, hpa⟩ := H2.out
  have c11 := tail_cell hpa 3
  have c12 := tail_cell hpa 4
  rw [hcells] at c11 c12
  simp only [List.getElem?_cons_zero, List.getElem?_cons_succ, Nat.reduceAdd] at c11 c12
  obtain ⟨c11, f11⟩ := c11
  obtain ⟨c12, f12⟩ := c12
  have hs1 := tail_step hpa 3 (sv nm)
  have hs2 := tail_step hs1.1 4 (.slice none 0 0)
  have hk2 : Kp B [TB] w2 ((w2.setCell ⟨b, 11, none⟩ (sv nm)).setCell ⟨b, 12, none⟩ (.slice none 0 0)) := hs1.2.trans hs2.2
  have H3 : Hid (PA B b ⟨(tail.cells.set 3 (sv nm)).set 4 (.slice none 0 0), tail.trees⟩ ts σ2 ((w2.setCell ⟨b, 11, none⟩ (sv nm)).setCell ⟨b, 12, none⟩ (.slice none 0 0))) := ⟨_, _, _, _, hs2.1⟩
  have C3 : Hid (CAt ((w2.setCell ⟨b, 11, none⟩ (sv nm)).setCell ⟨b, 12, none⟩ (.slice none 0 0)) B ⟨(tail.cells.set 3 (sv nm)).set 4 (.slice none 0 0), tail.trees⟩ (σ.x.start nm) F s) := by
   have hcm := C2.out.kp hk2 (by decide) (by decide)
   obtain ⟨mb', vo', vr', m', q1, q2⟩ := hcm.mem
   refine ⟨hcm.st, hcm.low, mb', vo', .slice none 0 0, m', by rw [q1]; rfl, q2.le, q2.map, q2.keys, fun e he => ?_, q2.order, Sl.nil _ _ _ _, (fun k hk => by cases hk), fun _ => rfl⟩
   obtain ⟨p', hp', hq⟩ := q2.ents e he
   obtain ⟨vt, uu, r1, r2, r3, r4, r5⟩ := hq.blk
   exact ⟨p', hp', hq.le, vt, uu, r1, r2, r3, ahead_nil _ _ _ _, r5⟩
  have K3 := Lib.hid (K2.out.gg hk2.ge)
  clear hs1 hs2 hk2 hpa hmem hcells hσ2 H2 C2 K2
  unfold sv at H3 C3 K3
  go_upto_region 5 with (fail)
  generalize (w2.setCell ⟨b, 11, none⟩ (.string ⟨nm.toArray⟩)).setCell ⟨b, 12, none⟩ (.slice none 0 0) = w3 at *
  clear c11 c12 f11 f12
  have htl := ht
  go_cut [] (fun wx => ∃ us : List (Job × Value), Hid ((us.map Prod.fst).reverse = [.word [wRefs] .none, moreJob]) ∧ us.length = 2 ∧ Hid (PA B b ⟨(tail.cells.set 3 (.string ⟨nm.toArray⟩)).set 4 (.slice none 0 0), tail.trees⟩ (ts ++ us) σ2 wx) ∧ Hid (CAt wx B ⟨(tail.cells.set 3 (.string ⟨nm.toArray⟩)).set 4 (.slice none 0 0), tail.trees⟩ (σ.x.start nm) F s) ∧ Hid (Keeps (GE B) w wx))
  case first =>
   go_region_held3 (fun _ => True) (trivial) (first
    | (go_at_call 46
       fail_if_success (have hz9 := J1)
       refine (word_any b [wRefs] .none _ _ (by first | exact (putArg _ 1 _ [wRefs] _ (by first | rfl | simp) rfl rfl (by simp)) | exact ((putArg _ 1 _ [wRefs] _ (by first | rfl | simp) rfl rfl (by simp)).alloc _) | exact ((putArg _ 1 _ [wRefs] _ (by first | rfl | simp) rfl rfl (by simp)).drewN 1) | exact (((putArg _ 1 _ [wRefs] _ (by first | rfl | simp) rfl rfl (by simp)).alloc _).drewN 1) | exact (((putArg _ 1 _ [wRefs] _ (by first | rfl | simp) rfl rfl (by simp)).drewN 1).alloc _))).mono ?_
       rintro e w4 ⟨f1, rfl, hj1, hk1⟩
       have J1 := Lib.hid hj1
       have K4 : Hid (Keeps Non w3 w4) := Keeps.tn (by repeat (first | exact Keeps.refl _ _ | apply Keeps.alloc | apply Keeps.drew)) hk1)
    | (go_at_call 45
       refine (plan_new H5.out [(.word [wRefs] .none, f1), (moreJob, f2)] 2 _ _ rfl rfl rfl (by omega) (by intro t ht; simp only [List.mem_cons, List.not_mem_nil, or_false] at ht; rcases ht with rfl | rfl; exact J12.out; exact J2.out) (by omega)).mono ?_
       rintro e w6 ⟨rfl, h6, k6⟩)
    | (go_at_call 46
       refine (word_any b [wRef, wSum] .more _ _ (by first | exact (putArg _ 2 _ [wRef, wSum] _ (by first | rfl | simp) rfl rfl (by simp)) | exact ((putArg _ 2 _ [wRef, wSum] _ (by first | rfl | simp) rfl rfl (by simp)).alloc _) | exact ((putArg _ 2 _ [wRef, wSum] _ (by first | rfl | simp) rfl rfl (by simp)).drewN 1) | exact (((putArg _ 2 _ [wRef, wSum] _ (by first | rfl | simp) rfl rfl (by simp)).alloc _).drewN 1) | exact (((putArg _ 2 _ [wRef, wSum] _ (by first | rfl | simp) rfl rfl (by simp)).drewN 1).alloc _) | exact Sl.non (putArg _ 2 _ [wRef, wSum] _ (by first | rfl | simp) rfl rfl (by simp)) hk1 | exact Sl.non ((putArg _ 2 _ [wRef, wSum] _ (by first | rfl | simp) rfl rfl (by simp)).alloc _) hk1 | exact Sl.non ((putArg _ 2 _ [wRef, wSum] _ (by first | rfl | simp) rfl rfl (by simp)).drewN 1) hk1 | exact Sl.non (((putArg _ 2 _ [wRef, wSum] _ (by first | rfl | simp) rfl rfl (by simp)).alloc _).drewN 1) hk1 | exact Sl.non (((putArg _ 2 _ [wRef, wSum] _ (by first | rfl | simp) rfl rfl (by simp)).drewN 1).alloc _) hk1 | exact (Sl.non (putArg _ 2 _ [wRef, wSum] _ (by first | rfl | simp) rfl rfl (by simp)) hk1).drewN 1 | exact (Sl.non ((putArg _ 2 _ [wRef, wSum] _ (by first | rfl | simp) rfl rfl (by simp)).alloc _) hk1).drewN 1 | exact (Sl.non ((putArg _ 2 _ [wRef, wSum] _ (by first | rfl | simp) rfl rfl (by simp)).drewN 1) hk1).drewN 1 | exact (Sl.non (((putArg _ 2 _ [wRef, wSum] _ (by first | rfl | simp) rfl rfl (by simp)).alloc _).drewN 1) hk1).drewN 1 | exact (Sl.non (((putArg _ 2 _ [wRef, wSum] _ (by first | rfl | simp) rfl rfl (by simp)).drewN 1).alloc _) hk1).drewN 1)).mono ?_
       rintro e w5 ⟨f2, rfl, hj2, hk2⟩
       have hk2a : Keeps Non w4 w5 := Keeps.tn (by repeat (first | exact Keeps.refl _ _ | apply Keeps.alloc | apply Keeps.drew)) hk2
       have J2 := Lib.hid hj2
       have J12 := Lib.hid (J1.out.keeps hk2a)
       have K5 := Lib.hid (K4.out.tn hk2a)
       have H5 := Lib.hid (H3.out.keeps K5.out)))
   all_goals (
    go_wp2_with fail
    go_meet
    exact ⟨[(moreJob, f2), (.word [wRefs] .none, f1)], rfl, rfl, h6, ((C3.out.non K5.out).kp k6 (by decide) (by decide)), (K3.out.gg K5.out.ge).gg k6.ge⟩)
  case rest =>
   obtain ⟨us, HUS, hul, H4, C4, K4⟩ := hcut
   generalize wc = w4 at *
   go_wp2_with fail
   refine (tree_any H4.out (by rw [List.length_append, hul]; omega)).mono ?_
   rintro e w5 ⟨rfl, ⟨us2, hus2, h5⟩, k5⟩
   have HU2 := Lib.hid hus2
   have H5 := Lib.hid h5
   have C5 := Lib.hid (C4.out.kp k5 (by decide) (by decide))
   have K5 := Lib.hid (K4.out.gg k5.ge)
   clear hus2 h5 k5
   go_wp2_with fail
   go_end0
   refine ⟨rfl, ⟨us ++ us2, _, ?_, ?_, C5.out, FarM.of_nil C5.out rfl _ (fun t ht e => ?_)⟩, K5.out⟩
   ·rw [List.map_append, List.reverse_append, HU2.out, HUS.out]
    rfl
   ·have h6 := H5.out
    rw [List.append_assoc] at h6
    rw [← HSS.out] at h6
    exact h6.upx (σ.x.start nm)
   ·rcases List.mem_append.1 ht with ht | ht
    ·exact HTS.out t ht e
    ·have h1 : t.1 ∈ ((us ++ us2).map Prod.fst).reverse := List.mem_reverse.2 (List.mem_map.2 ⟨t, ht, rfl⟩)
     rw [List.map_append, List.reverse_append, HU2.out, HUS.out, e] at h1
     exact absurd h1 (by decide)
structure CRd (w : World) (b : Nat) (x : CX) (s sm mb : Nat) (L M : MapL) (vo : Value) (ra : Option Addr) (rc : Nat) : Prop where
 c8 : w.cell? ⟨b, 8, none⟩ = some (pv s)
 c9 : w.cell? ⟨b, 9, none⟩ = some (.map (some mb))
 c10 : w.cell? ⟨b, 10, none⟩ = some vo
 c11 : w.cell? ⟨b, 11, none⟩ = some (sv x.name)
 c12 : w.cell? ⟨b, 12, none⟩ = some (.slice ra x.refs.length rc)
 cs : w.cell? ⟨s, 0, none⟩ = some (.map (some sm))
 sm : MapAt w sm L
 mm : MapAt w mb M
 hasN : ∀ k, findE x.has k = none → getM L k = none
 hasS : ∀ k e, findE x.has k = some e → ∃ p, getM L k = some (pv p)
 cameN : ∀ k, findE x.came k = none → getM M k = none
 cameS : ∀ k e, findE x.came k = some e → ∃ p, getM M k = some (pv p)
 len : L.length = x.has.length
theorem CAt.rd {B b : Nat} {tail : PT} {ts : List (Job × Value)} {σ : PSt} {w : World} {F : Nat → Prop} {s : Nat} {x : CX} (h : PA B b tail ts σ w) (hc : CAt w B tail x F s) :
 ∃ sm mb L M vo ra rc, CRd w b x s sm mb L M vo ra rc ∧ CMem w B tail x mb vo (.slice ra x.refs.length rc) M ∧ tail.cells = [pv s, .map (some mb), vo, sv x.name, .slice ra x.refs.length rc] ∧ x.refs.length ≤ rc ∧ rc ≤ maxLen := by
 obtain ⟨mb, vo, vr, m, hcells, hmem⟩ := hc.mem
 obtain ⟨ur, ut, ul, ua, hpa⟩ := h
 obtain ⟨sm, L, h1, h2, h3, h4, h5, h6⟩ := hc.st.map
 obtain ⟨ra, rc, rfl, hr1, hr2⟩ := hmem.refs.shape
 have c8 := (tail_cell hpa 0).1
 have c9 := (tail_cell hpa 1).1
 have c10 := (tail_cell hpa 2).1
 have c11 := (tail_cell hpa 3).1
 have c12 := (tail_cell hpa 4).1
 rw [hcells] at c8 c9 c10 c11 c12
 refine ⟨sm, mb, L, m, vo, ra, rc, ⟨c8, c9, c10, c11, c12, h2.cell 0, h3, hmem.map, fun k hk => ?_, fun k e hk => ?_, fun k hk => ?_, fun k e hk => ?_, h4⟩, hmem, hcells, hr1, hr2⟩
 ·rcases StoreAt.look h3 h5 h6 k with ⟨-, g⟩ | ⟨e, p, g, -⟩
  ·exact g
  ·rw [hk] at g; cases g
 ·rcases StoreAt.look h3 h5 h6 k with ⟨g, -⟩ | ⟨e', p, g, -, -, g2, -⟩
  ·rw [hk] at g; cases g
  ·exact ⟨p, g2⟩
 ·rcases hmem.look k with ⟨-, g⟩ | ⟨e, p, g, -⟩
  ·exact g
  ·rw [hk] at g; cases g
 ·rcases hmem.look k with ⟨g, -⟩ | ⟨e', p, g, -, -, g2⟩
  ·rw [hk] at g; cases g
  ·exact ⟨p, g2⟩
theorem refErr_a {x : CX} {nm : List UInt8} (h : risesB x.refs nm = false) : refErr x nm = 7 := by unfold refErr; rw [h]; rfl
theorem refErr_b {x : CX} {nm : List UInt8} (h : risesB x.refs nm = true) (h2 : nm = x.name ∨ (∃ e, findE x.has nm = some e) ∨ ∃ e, findE x.came nm = some e) : refErr x nm = 0 := by
 unfold refErr
 rw [h, if_neg (by simp), if_neg]
 rintro ⟨h3, h4, h5⟩
 rcases h2 with h2 | ⟨e, h2⟩ | ⟨e, h2⟩
 ·exact h3 h2
 ·rw [h2] at h4; cases h4
 ·rw [h2] at h5; cases h5
theorem refErr_c {x : CX} {nm : List UInt8} (h : risesB x.refs nm = true) (h1 : nm ≠ x.name) (h2 : findE x.has nm = none) (h3 : findE x.came nm = none) : refErr x nm = 13 := by
 unfold refErr
 rw [h, if_neg (by simp), if_pos ⟨h1, h2, h3⟩]
theorem infoStrI : (Tryz.prog.info? 9).map (fun i => (i.zero, i.size, i.bytes)) = some (some (.string ⟨#[]⟩), 1, 16) := by kernel_rfl
set_option maxHeartbeats 3200000 in
set_option maxRecDepth 100000 in
theorem cref_any {B b : Nat} {tail : PT} {ts : List (Job × Value)} {σ : PSt} {w : World} {F : Nat → Prop} {s : Nat} (h : PA B b tail ts σ w) (hc : CAt w B tail σ.x F s) (nm : List UInt8) (hn : nm.length ≤ 1000) (p : Int)
 (hrl : σ.x.refs.length ≤ 549755813888) (hrs : ∀ r ∈ σ.x.refs, r.length ≤ 549755813888) (hnn : σ.x.name.length ≤ 549755813888) (hts : ∀ t ∈ ts, t.1 = moreJob) (hfar : FarM w tail.cells ts) :
 Calls Tryz.prog 129 #[.pointer (some ⟨b, 0, none⟩), sv nm, .int .i64 p] w (DidX B b ts (doJob .cref nm p σ) F s w) := by
 obtain ⟨sm, mb, L, M, vo, ra, rc, hrd, hmem, hcells, hr1, hr2⟩ := hc.rd h
 have H0 := Lib.hid h
 have C0 := Lib.hid hc
 have RD := Lib.hid hrd
 have HM := Lib.hid hmem
 have HCE := Lib.hid hcells
 have HTS := Lib.hid hts
 have HFAR := Lib.hid hfar
 have HTE : Hid (Tryz.prog.underlying 82 = some (.map 9 81)) := Tryz.underlying82
 unfold maxLen at hr2
 have c8 := hrd.c8
 have c9 := hrd.c9
 have c11 := hrd.c11
 have c12 := hrd.c12
 have cs := hrd.cs
 have hns : nm.length ≤ 1099511627776 := by omega
 clear h hc hrd hmem hcells hrs hnn hts hfar
 unfold sv pv at *
 go_enter Tryz.func129, Tryz.ntmps129
 go_upto_block 0 with (fail)
 go_cut [] (fun wx => Hid (PA B b tail ts (σ.failIf (refErr σ.x nm) p) wx) ∧ Hid (CAt wx B tail σ.x F s) ∧ Hid (Keeps (GE B) w wx) ∧ Hid (FarM wx tail.cells ts))
 case first =>
  go_upto_region 1 with (fail)
  go_cut [12] (fun hv wx => hv = .bool (!risesB σ.x.refs nm) ∧ w = wx)
  case first =>
   rcases List.eq_nil_or_concat σ.x.refs with hnil | ⟨l, t, hcon⟩
   ·have HR : Hid (risesB σ.x.refs nm = true) := by show _ = _; rw [hnil]; rfl
    have hl0 : σ.x.refs.length = 0 := by rw [hnil]; rfl
    have e4 : decide ((0 : Int) < (σ.x.refs.length : Int)) = false := decide_eq_false (by omega)
    have e5 : decide (0 < σ.x.refs.length) = false := decide_eq_false (by omega)
    clear hnil hl0
    go_wp2_with fail
    go_meet
    rw [HR.out]
    exact ⟨rfl, rfl⟩
   ·rw [List.concat_eq_append] at hcon
    have hl1 : σ.x.refs.length = l.length + 1 := by rw [hcon]; simp
    have HR : Hid (risesB σ.x.refs nm = Op.bytesLess t nm) := by show _ = _; rw [hcon]; simp [risesB]
    have hsl := HM.out.refs
    rw [hl1] at hsl
    obtain ⟨rb, ro, cap, hsh, -, -, -, hbl, hcc, -⟩ := hsl.pos (by omega)
    cases hsh
    have d1 : w.cell? ⟨rb, ro + l.length, none⟩ = some (sv t) := by
     rw [hcc l.length (by omega), hcon]
     simp [svs]
    obtain ⟨m, hm⟩ : ∃ m, l.length = m := ⟨_, rfl⟩
    rw [hm] at d1 hl1
    have e1 : IntKind.i64.wrap ((σ.x.refs.length : Int) - 1) = (m : Int) := by rw [IntWalk.i64_in _ (by omega)]; omega
    have e2 : (0 : Int) ≤ (m : Int) := by omega
    have e3 : (m : Int) < (σ.x.refs.length : Int) := by omega
    have e4 : decide ((0 : Int) < (σ.x.refs.length : Int)) = true := decide_eq_true (by omega)
    have e5 : decide (0 < σ.x.refs.length) = true := decide_eq_true (by omega)
    have e6 : m < σ.x.refs.length := by omega
    unfold sv at d1
    clear hsl hcc hcon hl1 hm
    cases hl : Op.bytesLess t nm with
    | true =>
      have hl2 : (!Op.bytesLess t nm) = false := by rw [hl]; rfl
      go_wp2_with fail
      go_meet
      rw [HR.out, hl]
      exact ⟨rfl, rfl⟩
    | false =>
      have hl2 : (!Op.bytesLess t nm) = true := by rw [hl]; rfl
      go_wp2_with fail
      go_meet
      rw [HR.out, hl]
      exact ⟨rfl, rfl⟩
  case rest =>
   obtain ⟨rfl, rfl⟩ := hcut
   cases hris : risesB σ.x.refs nm with
   | false =>
     have HE : Hid (refErr σ.x nm = 7) := refErr_a hris
     clear hris
     go_wp2_with fail
     refine (fail_any H0.out 7 p).mono ?_
     rintro e w2 ⟨rfl, h2, k2⟩
     have H2 := Lib.hid h2
     have C2 := Lib.hid (C0.out.kp k2 (by decide) (by decide))
     have K2 : Hid (Keeps (GE B) w w2) := k2.ge
     have HF2 := Lib.hid (HFAR.out.kp H0.out k2 (by decide))
     clear h2 k2
     go_wp2_with fail
     go_meet
     rw [HE.out]
     exact ⟨H2, C2, K2, HF2⟩
   | true =>
     have HRI := Lib.hid hris
     clear hris
     by_cases hnm : nm = σ.x.name
     ·have HE : Hid (refErr σ.x nm = 0) := refErr_b HRI.out (.inl hnm)
      have hb : (nm == σ.x.name) = true := by rw [hnm]; exact beq_self_eq_true _
      have hb2 : (nm != σ.x.name) = false := by unfold bne; rw [hb]; rfl
      clear hnm
      go_wp2_with fail
      go_meet
      rw [HE.out]
      exact ⟨H0, C0, Keeps.refl _ _, HFAR⟩
     ·have hb : (nm == σ.x.name) = false := by rw [beq_eq_false_iff_ne]; exact hnm
      have hb2 : (nm != σ.x.name) = true := by unfold bne; rw [hb]; rfl
      have HNM : Hid (¬ nm = σ.x.name) := hnm
      clear hnm
      cases hfh : findE σ.x.has nm with
      | some e =>
        obtain ⟨q, hg⟩ := RD.out.hasS nm e hfh
        have HVAL : Hid ((getM L nm).getD (.pointer none) = .pointer (some ⟨q, 0, none⟩)) := by show _ = _; rw [hg]; rfl
        have HE : Hid (refErr σ.x nm = 0) := refErr_b HRI.out (.inr (.inl ⟨e, hfh⟩))
        clear hfh hg
        go_wp2_with (first | (at_lookup; refine wpl_lookw _ rfl _ _ _ rfl _ _ HTE.out Tryz.underlying9 (.pointer none) (Tryz.zeroValue81 _) sm L rfl RD.out.sm nm rfl hns ?_; rw [HVAL.out]))
        go_meet
        rw [HE.out]
        exact ⟨H0, C0, Keeps.refl _ _, HFAR⟩
      | none =>
        have hg := RD.out.hasN nm hfh
        have HVAL : Hid ((getM L nm).getD (.pointer none) = .pointer none) := by show _ = _; rw [hg]; rfl
        have HFH := Lib.hid hfh
        clear hfh hg
        cases hfc : findE σ.x.came nm with
        | some e =>
          obtain ⟨q, hg⟩ := RD.out.cameS nm e hfc
          have HVAL2 : Hid ((getM M nm).getD (.pointer none) = .pointer (some ⟨q, 0, none⟩)) := by show _ = _; rw [hg]; rfl
          have HE : Hid (refErr σ.x nm = 0) := refErr_b HRI.out (.inr (.inr ⟨e, hfc⟩))
          clear hfc hg
          go_wp2_with (first | (at_lookup; refine wpl_lookw _ rfl _ _ _ rfl _ _ HTE.out Tryz.underlying9 (.pointer none) (Tryz.zeroValue81 _) sm L rfl RD.out.sm nm rfl hns ?_; rw [HVAL.out]) | (at_lookup; refine wpl_lookw _ rfl _ _ _ rfl _ _ HTE.out Tryz.underlying9 (.pointer none) (Tryz.zeroValue81 _) mb M rfl RD.out.mm nm rfl hns ?_; rw [HVAL2.out]))
          go_meet
          rw [HE.out]
          exact ⟨H0, C0, Keeps.refl _ _, HFAR⟩
        | none =>
          have hg := RD.out.cameN nm hfc
          have HVAL2 : Hid ((getM M nm).getD (.pointer none) = .pointer none) := by show _ = _; rw [hg]; rfl
          have HE : Hid (refErr σ.x nm = 13) := refErr_c HRI.out HNM.out HFH.out hfc
          clear hfc hg
          go_wp2_with (first | (at_lookup; refine wpl_lookw _ rfl _ _ _ rfl _ _ HTE.out Tryz.underlying9 (.pointer none) (Tryz.zeroValue81 _) sm L rfl RD.out.sm nm rfl hns ?_; rw [HVAL.out]) | (at_lookup; refine wpl_lookw _ rfl _ _ _ rfl _ _ HTE.out Tryz.underlying9 (.pointer none) (Tryz.zeroValue81 _) mb M rfl RD.out.mm nm rfl hns ?_; rw [HVAL2.out]))
          refine (fail_any H0.out 13 p).mono ?_
          rintro e w2 ⟨rfl, h2, k2⟩
          have H2 := Lib.hid h2
          have C2 := Lib.hid (C0.out.kp k2 (by decide) (by decide))
          have K2 : Hid (Keeps (GE B) w w2) := k2.ge
          have HF2 := Lib.hid (HFAR.out.kp H0.out k2 (by decide))
          clear h2 k2
          go_wp2_with fail
          go_meet
          rw [HE.out]
          exact ⟨H2, C2, K2, HF2⟩
 case rest =>
  obtain ⟨H2, C2, K2, HF2⟩ := hcut
  generalize wc = w2 at *
  clear c8 c9 c11 c12 cs RD HM HCE hr1 hr2 HFAR
  obtain ⟨σ2, hσ2⟩ : ∃ σ2, σ.failIf (refErr σ.x nm) p = σ2 := ⟨_, rfl⟩
  rw [hσ2] at H2
  have HSS := Lib.hid hσ2
  obtain ⟨mb, vo, vr, m, hcells, hmem⟩ := C2.out.mem
  obtain ⟨ra, rc, rfl, hr1, hr2⟩ := hmem.refs.shape
  have HM2 := Lib.hid hmem
  have HCE := Lib.hid hcells
  obtain ⟨ur, ut, ul, ua, hpa⟩ := H2.out
  have c12 := (tail_cell hpa 4).1
  rw [hcells] at c12
  simp only [List.getElem?_cons_zero, List.getElem?_cons_succ, Nat.reduceAdd] at c12
  have HP2 := Lib.hid hpa
  have hsl := hmem.refs
  have hbs := hpa.blk.lt
  have hlb := hpa.le
  unfold maxLen at hr2
  clear hσ2 hcells hmem hpa
  obtain ⟨i0, hi, hi0, hi1, hi2⟩ := info_parts infoStrI
  go_wp2_with (at_builtin; refine wpList_append_own3 rfl _ _ 26 26 rfl 9 i0 _ 1 16 Tryz.underlying26 hi hi0 hi1 hi2 rfl B _ _ _ rfl _ rfl 1 [.string ⟨nm.toArray⟩] ?d11 (hsl.alloc _) ?d12 ?d13 ?d14 ?_)
  case d11 => simp; omega
  case d12 => exact Src.ofSl Tryz.underlying26 (Sl.of_new w2 0 (Nat.zero_le _) 9 1 1 [.string ⟨nm.toArray⟩] rfl (by simp [maxLen])) (by intro u hu; simp only [List.mem_cons, List.not_mem_nil, or_false] at hu; rcases hu with rfl; rfl)
  case d13 => unfold maxLen; omega
  case d14 => omega
  intro ao cc w3 hs3 hk3 hkk3 hb3 hpp3
  have hk23 : Kp B [TSr] w2 w3 := ((Kp.refl _ _ _).alloc _).trans hk3
  have ha2 : Keeps Non w2 (w2.alloc (.cells #[.string ⟨nm.toArray⟩] 9)) := (Keeps.refl _ _).alloc _
  have hpa2 := HP2.out.keeps ha2
  have hsz2 : (w2.alloc (.cells #[.string ⟨nm.toArray⟩] 9)).heap.size = w2.heap.size + 1 := by simp
  have hfar2 : FarM (w2.alloc (.cells #[.string ⟨nm.toArray⟩] 9)) tail.cells ts := HF2.out.kp H2.out (Kp.of_keeps (B := B) (Ts := []) ha2) (by simp)
  have hmem2 := HM2.out.kp (Kp.of_keeps (B := B) (Ts := []) ha2) (by simp) (by simp)
  have hv4 : tail.cells[4]? = some (.slice ra σ.x.refs.length rc) := by rw [HCE.out]; rfl
  have hpa3 : PAt B b tail ts σ2 w3 ur ut ul ua := by
   refine ⟨hpa2.blk.kp hk3 (.inr (by decide)), hpa2.le, hpa2.rest.kp hk3 (.inl (by decide)), hpa2.todo.kp hk3 (.inl (by decide)), hpa2.nodes.kp hk3 (.inl (by decide)), hpa2.above.kp hk3 (.inl (by decide)), fun t ht => ?_, fun t ht => ⟨(hpa2.kept t ht).1.kp hk3 (.inl (by decide)), (hpa2.kept t ht).2⟩⟩
   have hj := hpa2.jobs t ht
   have he := HTS.out t ht
   have hf := (hfar2 _).1 hv4 t ht he
   rw [he] at hj ⊢
   obtain ⟨bm, bp, bt, vm, hfe, g1, g2, g3, g4⟩ := hj
   exact ⟨bm, bp, bt, vm, hfe, g1.kp hk3 (.inr (by decide)), (hpp3 0 vm _ _ g2 (hf _ _ _ _ hfe g1)).1, g3.kp hk3 (.inr (by decide)), g4.kp hk3 (.inr (by decide))⟩
  have hst := tail_step hpa3 4 (.slice ao (σ.x.refs.length + 1) cc)
  have hcell3 := (tail_cell hpa3 4).1
  rw [HCE.out] at hcell3
  have hfr3 := (tail_cell hpa3 4).2
  simp only [List.getElem?_cons_zero, List.getElem?_cons_succ, Nat.reduceAdd] at hcell3 hfr3
  have hbef : ∀ k, vo.ownBlock = some k → k < (w2.alloc (.cells #[.string ⟨nm.toArray⟩] 9)).heap.size := fun k hk => hmem2.order.own_lt hk
  have hca3 : CAt (w3.setCell ⟨b, 4 + 8, none⟩ (.slice ao (σ.x.refs.length + 1) cc)) B ⟨tail.cells.set 4 (.slice ao (σ.x.refs.length + 1) cc), tail.trees⟩ { σ.x with refs := σ.x.refs ++ [nm] } F s := by
   have hkA : Keeps (GE B) w2 (w3.setCell ⟨b, 4 + 8, none⟩ (.slice ao (σ.x.refs.length + 1) cc)) := hk23.ge.gg hst.2.ge
   refine ⟨C2.out.st.keeps hkA fun k hk hB => by have := C2.out.low k hk; have : B ≤ k := hB; omega, C2.out.low, mb, vo, .slice ao (σ.x.refs.length + 1) cc, m, by rw [HCE.out]; rfl, ?_⟩
   refine ⟨hmem2.le, (hmem2.map.kp hk3).kp hst.2, hmem2.keys, fun e he => ?_, ?_, ?_, fun k hk => ?_, fun h => by simp at h⟩
   ·obtain ⟨p', hp', hq⟩ := hmem2.ents e he
    obtain ⟨vt, uu, r1, r2, r3, r4, r5⟩ := hq.blk
    have h1 := hpp3 B uu _ _ r3 r4
    exact ⟨p', hp', hq.le, vt, uu, (r1.kp hk3 (.inr (by decide))).kp hst.2 (.inr (by decide)), r2, h1.1.kp hst.2 (.inl (by decide)), h1.2, r5⟩
   ·exact (hmem2.order.keep fun bb c hbb _ hblk => hblk.keeps hkk3 (fun e => hmem2.apart bb e hbb)).kp hst.2 (.inl (by decide))
   ·have h1 := hs3.kp hst.2 (.inl (by decide))
    show Sl _ B TSr 1 _ (σ.x.refs ++ [nm]).length (svs (σ.x.refs ++ [nm]))
    rw [List.length_append, List.length_singleton]
    have e1 : svs (σ.x.refs ++ [nm]) = svs σ.x.refs ++ [.string ⟨nm.toArray⟩] := by simp [svs, sv]
    rw [e1]
    exact h1
   ·rcases hb3 with e | e
    ·exact hmem2.apart k (e.symm.trans hk)
    ·intro e2
     have e3 := hbef k e2
     have e4 := e.symm.trans hk
     cases e4
     omega
  have hfm : FarM (w3.setCell ⟨b, 4 + 8, none⟩ (.slice ao (σ.x.refs.length + 1) cc)) (tail.cells.set 4 (.slice ao (σ.x.refs.length + 1) cc)) ts := by
   refine fun v => ⟨fun hv t ht he => ?_, fun hv t ht he => absurd (he.symm.trans (HTS.out t ht)) (by decide)⟩
   have hve : v = .slice ao (σ.x.refs.length + 1) cc := by
    rw [HCE.out] at hv
    simpa using hv.symm
   subst hve
   have hj := hpa2.jobs t ht
   have hf := (hfar2 _).1 hv4 t ht he
   have hj3 := hpa3.jobs t ht
   rw [he] at hj hj3
   refine JobFar.kpN hj3 ?_ hst.2 (by decide)
   obtain ⟨bm0, bp0, bt0, vm0, hf0, hb0, hs0, -⟩ := hj
   intro bm bp bt vm hfv hbv
   rw [hf0] at hfv
   have e1 : bm0 = bm := by simp at hfv; exact hfv.1
   subst e1
   have h2 := (hb0.kp hk3 (.inr (by decide))).inj hbv
   have e2 : vm = vm0 := by simpa using h2.1.symm
   subst e2
   exact (hpp3 0 vm _ _ hs0 (hf _ _ _ _ hf0 hb0)).2
  have HPF := Lib.hid hst.1
  have HCF := Lib.hid hca3
  have HFF := Lib.hid hfm
  have HKF : Hid (Keeps (GE B) w (w3.setCell ⟨b, 4 + 8, none⟩ (.slice ao (σ.x.refs.length + 1) cc))) := (K2.out.gg hk23.ge).gg hst.2.ge
  clear hst hca3 hfm hs3 hk3 hkk3 hb3 hpp3 hk23 ha2 hpa2 hfar2 hmem2 hv4 hpa3 hbef hi hi0 hi1 hi2 c12 hsl hsz2 H2 C2 K2 HF2
  go_wp2_with fail
  go_end0
  refine ⟨rfl, ⟨[], _, rfl, ?_, HCF.out, ?_⟩, HKF.out⟩
  ·rw [List.append_nil]
   have h6 : PA B b ⟨tail.cells.set 4 (.slice ao (σ.x.refs.length + 1) cc), tail.trees⟩ ts σ2 (w3.setCell ⟨b, 4 + 8, none⟩ (.slice ao (σ.x.refs.length + 1) cc)) := ⟨_, _, _, _, HPF.out⟩
   rw [← HSS.out] at h6
   exact h6.upx _
  ·rw [List.append_nil]
   exact HFF.out
end Go.Proofs.YtdkogijdfgfpeaaGreatDoor

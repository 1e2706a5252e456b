/- (*store.coming).sum: an entry has come whole. -/
import Derived.Test.YtdkogijdfgfpeaaGreatDoorVITree
import Derived.Test.YtdkogijdfgfpeaaGreatDoorVPKeep
import Derived.Test.YtdkogijdfgfpeaaGreatDoorVIRef
import Derived.Test.YtdkogijdfgfpeaaGreatDoorVPackw
import Derived.Test.YtdkogijdfgfpeaaGreatDoorVPack
import Derived.Test.YtdkogijdfgfpeaaGreatDoorVExpP
import Derived.Test.YtdkogijdfgfpeaaGreatDoorVClosP
set_option linter.unusedVariables false
namespace Go.Proofs.YtdkogijdfgfpeaaGreatDoor
open Go Go.RowKit Go.MapKept Go.ChangeShapes Go.WideShapes Go.ChangeMaps
theorem MapAt.get_inj {w : World} {b : Nat} {m m' : MapL} (h : MapAt w b m) (h' : MapAt w b m') (k : List UInt8) : getM m k = getM m' k := by
 obtain ⟨es, c, hb, hm⟩ := h
 obtain ⟨es', c', hb', hm'⟩ := h'
 rw [hb] at hb'
 cases hb'
 have e1 : ∀ (x : List UInt8 × Value), x ∈ m → x ∈ m' := fun x hx => by
  obtain ⟨e, he, h1, h2⟩ := hm.ent hx
  obtain ⟨y, hy, g1, g2⟩ := hm'.key he
  have e3 : x = y := by
   have := svj (h1.symm.trans g1)
   exact Prod.ext this (h2.symm.trans g2)
  rw [e3]; exact hy
 have e2 : ∀ (x : List UInt8 × Value), x ∈ m' → x ∈ m := fun x hx => by
  obtain ⟨e, he, h1, h2⟩ := hm'.ent hx
  obtain ⟨y, hy, g1, g2⟩ := hm.key he
  have e3 : x = y := by
   have := svj (h1.symm.trans g1)
   exact Prod.ext this (h2.symm.trans g2)
  rw [e3]; exact hy
 cases hg : getM m k with
 | none =>
   symm
   rw [getM_none] at hg ⊢
   exact fun x hx => hg x (e2 x hx)
 | some v => exact ((getM_mem hm'.keys).2 (e1 _ ((getM_mem hm.keys).1 hg))).symm
theorem CAt.rd2 {B b : Nat} {tail : PT} {ts : List (Job × Value)} {σ : PSt} {w : World} {F : Nat → Prop} {s : Nat} {x : CX} (h : PA B b tail ts σ w) (hc : CAt w B tail x F s) {mb : Nat} {vo : Value} {ra : Option Addr} {rc : Nat}
 (he : tail.cells = [pv s, .map (some mb), vo, sv x.name, .slice ra x.refs.length rc]) : ∃ sm L M, CRd w b x s sm mb L M vo ra rc ∧ CMem w B tail x mb vo (.slice ra x.refs.length rc) M := by
 obtain ⟨sm, mb', L, M, vo', ra', rc', h1, h2, h3, -⟩ := hc.rd h
 rw [he] at h3
 simp only [List.cons.injEq, Value.map.injEq, Option.some.injEq, Value.slice.injEq, true_and, and_true] at h3
 obtain ⟨rfl, rfl, rfl, rfl⟩ := h3
 exact ⟨sm, L, M, h1, h2⟩
def OldAt (w : World) (F : Nat → Prop) (x : CX) (ov : Value) : Prop := (findE x.has x.name = none ∧ ov = .pointer none) ∨ ∃ e q, findE x.has x.name = some e ∧ ov = .pointer (some ⟨q, 0, none⟩) ∧ EntAt w F q e
theorem OldAt.ge {w w' : World} {F : Nat → Prop} {x : CX} {ov : Value} {B : Nat} (h : OldAt w F x ov) (k : Keeps (GE B) w w') (hl : ∀ j, F j → j < B) : OldAt w' F x ov := by
 rcases h with h | ⟨e, q, h1, h2, h3⟩
 ·exact .inl h
 ·exact .inr ⟨e, q, h1, h2, h3.keeps k fun b _ _ _ hb _ hg => by have := hl b hb; have : B ≤ b := hg; omega⟩
theorem count_step {fr : List UInt8 → Bool} : ∀ {todo : List (List UInt8)} {k : List UInt8}, todo.Nodup → k ∈ todo → todo.countP fr = (todo.filter fun x => x != k).countP fr + (if fr k then 1 else 0)
 | [], _, _, h => by cases h
 | a :: r, k, hn, hk => by
   obtain ⟨h1, h2⟩ := List.nodup_cons.1 hn
   by_cases e : a = k
   ·subst e
    have hf : (r.filter fun x => x != a) = r := List.filter_eq_self.2 fun x hx => by simpa using fun e2 : x = a => h1 (e2 ▸ hx)
    rw [List.filter_cons_of_neg (by simp), hf, List.countP_cons]
   ·have hkr : k ∈ r := by
     rcases List.mem_cons.1 hk with e2 | e2
     ·exact absurd e2.symm e
     ·exact e2
    rw [List.filter_cons_of_pos (by simpa using e), List.countP_cons, List.countP_cons, count_step h2 hkr]
    omega
theorem fresh_count {x : CX} {M : MapL} (h : (M.map Prod.fst).Perm (x.came.map Ent.path)) : (M.map Prod.fst).countP (fun p => (findE x.has p).isNone) = freshN x := by
 rw [h.countP_eq, List.countP_map]
 rfl
theorem Sl.of_blk {w w' : World} {B : Nat} {E : TypeId} {size : Nat} {v : Value} {n : Nat} {xs : List Value} (h : Sl w B E size v n xs) (hn : ∀ b c T, Blk w b c T → Blk w' b c T) : Sl w' B E size v n xs := h.keep fun b c _ _ hb => hn b c _ hb
theorem JobAt.of_blk {w w' : World} {b : Nat} {j : Job} {f : Value} (h : JobAt w b j f) (hn : ∀ b c T, Blk w b c T → Blk w' b c T) : JobAt w' b j f := by
 cases j with
 | word may act =>
   obtain ⟨bm, bp, bt, vm, rfl, h1, h2, h3, h4⟩ := h
   exact ⟨bm, bp, bt, vm, rfl, hn _ _ _ h1, h2.of_blk hn, hn _ _ _ h3, hn _ _ _ h4⟩
 | leads => exact h
 | name => exact h
 | keep k' =>
   obtain ⟨bp, bk, rfl, h1, h2⟩ := h
   exact ⟨bp, bk, rfl, hn _ _ _ h1, hn _ _ _ h2⟩
 | cpath => exact h
 | cref => exact h
 | csum => exact h
theorem PAt.of_blk {B b : Nat} {tail : PT} {ts : List (Job × Value)} {σ : PSt} {w w' : World} {vr vt vl va : Value} (h : PAt B b tail ts σ w vr vt vl va) (hn : ∀ b c T, Blk w b c T → Blk w' b c T) : PAt B b tail ts σ w' vr vt vl va :=
 ⟨hn _ _ _ h.blk, h.le, h.rest.of_blk hn, h.todo.of_blk hn, h.nodes.of_blk hn, h.above.of_blk hn, fun t ht => (h.jobs t ht).of_blk hn, fun t ht => ⟨(h.kept t ht).1.of_blk hn, (h.kept t ht).2⟩⟩
theorem JobFar.of_blk {w w' : World} {b : Nat} {v f : Value} {may : List (List UInt8)} {act : Act1} (hj : JobAt w b (.word may act) f) (h : JobFar w v f) (hn : ∀ b c T, Blk w b c T → Blk w' b c T) : JobFar w' v f := by
 intro bm bp bt vm hfv hbv
 obtain ⟨bm0, bp0, bt0, vm0, hf0, hb0, -⟩ := hj
 rw [hf0] at hfv
 have e1 : bm0 = bm := by simp at hfv; exact hfv.1
 subst e1
 have h2 := (hn _ _ _ hb0).inj hbv
 have e2 : vm = vm0 := by simpa using h2.1.symm
 subst e2
 exact h _ _ _ _ hf0 hb0
theorem keys_put {M : MapL} {came : Ents} {e : Ent} {v : Value} (hk : (M.map Prod.fst).Perm (came.map Ent.path)) (ho : came.Pairwise fun a b => a.path ≠ b.path) : ((putM M e.path v).map Prod.fst).Perm ((setE came e).map Ent.path) := by
 unfold setE
 rw [List.map_append]
 show List.Perm _ (_ ++ [e.path])
 by_cases hin : e.path ∈ M.map Prod.fst
 ·rw [putM_keys v hin]
  refine hk.trans ?_
  have hin2 : e.path ∈ came.map Ent.path := hk.mem_iff.1 hin
  have hnd : (came.map Ent.path).Nodup := List.pairwise_map.2 ho
  have h1 := List.Nodup.erase_eq_filter hnd e.path
  have h2 : (came.filter fun o => o.path != e.path).map Ent.path = (came.map Ent.path).erase e.path := by
   rw [h1, List.filter_map]
   rfl
  rw [h2]
  exact (List.perm_cons_erase hin2).trans (List.perm_append_comm (l₁ := [e.path]))
 ·have hg : getM M e.path = none := getM_none.2 fun x hx e2 => hin (List.mem_map.2 ⟨x, hx, e2⟩)
  have hp : putM M e.path v = M ++ [(e.path, v)] := by rw [putM, hg]; rfl
  have hf : came.filter (fun o => o.path != e.path) = came := List.filter_eq_self.2 fun o ho => by
   have : o.path ≠ e.path := fun e2 => hin (hk.mem_iff.2 (List.mem_map.2 ⟨o, ho, e2⟩))
   simpa using this
  rw [hp, hf, List.map_append]
  exact hk.append_right _
theorem csum_mid {B b : Nat} {tail : PT} {ts : List (Job × Value)} {σ : PSt} {x : CX} {w w' : World} {F : Nat → Prop} {s mb q rc : Nat} {vr vt vl va vo : Value} {l : List Node} {ra : Option Addr} {M : MapL}
 (hp : PAt B b tail ts σ w vr vt vl va) (hl : σ.nodes = l) (hc : CAt w B tail x F s) (hce : tail.cells = [pv s, .map (some mb), vo, sv x.name, .slice ra x.refs.length rc]) (hm : CMem w B tail x mb vo (.slice ra x.refs.length rc) M) (ho : x.came.Pairwise fun a b => a.path ≠ b.path)
 (hq : B ≤ q) (hb : Blk w q #[sv (packP l), vl, .slice ra x.refs.length rc] TE) (hf : FarM w tail.cells ts) (hts : ∀ t ∈ ts, t.1 = nextJob) (hm' : MapAt w' mb (putM M x.name (pv q))) (hk : Keeps (One mb) w w') :
 PAt B b ⟨tail.cells, tail.trees ++ [(vl, l)]⟩ ts σ w' vr vt vl va ∧ CMem w' B ⟨tail.cells, tail.trees ++ [(vl, l)]⟩ { x with came := setE x.came (x.ent l) } mb vo (.slice ra x.refs.length rc) (putM M x.name (pv q)) ∧
 CAt w' B ⟨tail.cells, tail.trees ++ [(vl, l)]⟩ { x with came := setE x.came (x.ent l) } F s ∧ FarM w' tail.cells ts := by
 have hn : ∀ b c T, Blk w b c T → Blk w' b c T := fun b c T hb => hb.keeps hk (fun e => hm.map.notcells hb e)
 have hp' := hp.of_blk hn
 have hmem : CMem w' B ⟨tail.cells, tail.trees ++ [(vl, l)]⟩ { x with came := setE x.came (x.ent l) } mb vo (.slice ra x.refs.length rc) (putM M x.name (pv q)) := by
  refine ⟨hm.le, hm', keys_put (e := x.ent l) hm.keys ho, fun e he => ?_, hm.order.of_blk hn, hm.refs.of_blk hn, hm.apart, hm.nil⟩
  rcases setE_mem.1 he with ⟨he, hne⟩ | rfl
  ·obtain ⟨p, hp, hE⟩ := hm.ents e he
   obtain ⟨ut, ur, g1, g2, g3, g4, g5⟩ := hE.blk
   refine ⟨p, ?_, hE.le, ut, ur, hn _ _ _ g1, List.mem_append.2 (.inl g2), g3.of_blk hn, g4, g5⟩
   rw [getM_put, if_neg (show ¬ e.path = x.name from hne)]
   exact hp
  ·refine ⟨q, ?_, hq, vl, .slice ra x.refs.length rc, hn _ _ _ hb, List.mem_append.2 (.inr (List.mem_singleton.2 rfl)), hm.refs.of_blk hn, ahead_self _ _, hm.apart⟩
   rw [getM_put, if_pos (show (x.ent l).path = x.name from rfl)]
 refine ⟨⟨hp'.blk, hp'.le, hp'.rest, hp'.todo, hp'.nodes, hp'.above, hp'.jobs, fun t ht => ?_⟩, hmem, ⟨hc.st.keeps hk fun k hF e => ?_, hc.low, mb, vo, _, _, hce, hmem⟩, fun v => ⟨fun hv t ht he => ?_, fun hv t ht he => ?_⟩⟩
 ·rcases List.mem_append.1 ht with ht | ht
  ·exact hp'.kept t ht
  ·obtain rfl := List.mem_singleton.1 ht
   exact ⟨by rw [← hl]; exact hp'.nodes, ahead_self _ _⟩
 ·have h1 := hc.low k hF
  have h2 := hm.le
  have : k = mb := e
  omega
 ·have hj := hp.jobs t ht
  rw [he] at hj
  exact ((hf v).1 hv t ht he).of_blk hj hn
 ·have hj := hp.jobs t ht
  rw [he] at hj
  exact ((hf v).2 hv t ht he).of_blk hj hn
theorem csum_end {B b : Nat} {tail : PT} {ts : List (Job × Value)} {σ : PSt} {x : CX} {w wa w7 : World} {F : Nat → Prop} {s mb : Nat} {ur ut vl ua vo v' vr : Value} {M : MapL}
 (hp : PAt B b tail ts σ w ur ut vl ua) (hm : CMem w B tail x mb vo vr M) (hc : CAt w B tail x F s) (hf : FarM w tail.cells ts) (hce : tail.cells = [pv s, .map (some mb), vo, sv x.name, vr]) (hts : ∀ t ∈ ts, t.1 = nextJob)
 (hka : Keeps Non w wa) (hs7 : Sl w7 B TSr 1 v' (x.order.length + 1) (svs x.order ++ [sv x.name])) (hk7 : Kp B [TSr] wa w7) (hkk7 : Keeps (OwnOf vo) wa w7) (hb7 : v'.ownBlock = vo.ownBlock ∨ v'.ownBlock = some wa.heap.size)
 (hpp7 : ∀ (B' : Nat) (t : Value) (k : Nat) (ys : List Value), Sl wa B' TSr 1 t k ys → Ahead 1 vo t → Sl w7 B' TSr 1 t k ys ∧ Ahead 1 v' t) :
 PAt B b ⟨tail.cells.set 2 v', tail.trees⟩ ts σ (w7.setCell ⟨b, 2 + 8, none⟩ v') ur ut vl ua ∧ CAt (w7.setCell ⟨b, 2 + 8, none⟩ v') B ⟨tail.cells.set 2 v', tail.trees⟩ { x with order := x.order ++ [x.name] } F s ∧
 FarM (w7.setCell ⟨b, 2 + 8, none⟩ v') (tail.cells.set 2 v') ts ∧ Keeps (GE B) w (w7.setCell ⟨b, 2 + 8, none⟩ v') := by
 have hpa := hp.keeps hka
 have hma := hm.kp (Kp.of_keeps (B := B) (Ts := []) hka) (by simp) (by simp)
 have hfa : FarM wa tail.cells ts := hf.kp ⟨_, _, _, _, hp⟩ (Kp.of_keeps (B := B) (Ts := []) hka) (by simp)
 have hv2 : tail.cells[2]? = some vo := by rw [hce]; rfl
 have hjob : ∀ t ∈ ts, JobAt w7 b t.1 t.2 := fun t ht => by
  have hj := hpa.jobs t ht
  have he := hts t ht
  have hf := (hfa _).2 hv2 t ht he
  rw [he] at hj ⊢
  obtain ⟨bm, bp, bt, vm, hfe, g1, g2, g3, g4⟩ := hj
  exact ⟨bm, bp, bt, vm, hfe, g1.kp hk7 (.inr (by decide)), (hpp7 0 vm _ _ g2 (hf _ _ _ _ hfe g1)).1, g3.kp hk7 (.inr (by decide)), g4.kp hk7 (.inr (by decide))⟩
 have hp7 : PAt B b tail ts σ w7 ur ut vl ua :=
  ⟨hpa.blk.kp hk7 (.inr (by decide)), hpa.le, hpa.rest.kp hk7 (.inl (by decide)), hpa.todo.kp hk7 (.inl (by decide)), hpa.nodes.kp hk7 (.inl (by decide)), hpa.above.kp hk7 (.inl (by decide)), hjob, fun t ht => ⟨(hpa.kept t ht).1.kp hk7 (.inl (by decide)), (hpa.kept t ht).2⟩⟩
 have hst := tail_step hp7 2 v'
 have hkA : Keeps (GE B) w (w7.setCell ⟨b, 2 + 8, none⟩ v') := (hka.ge.gg hk7.ge).gg hst.2.ge
 have hap : ∀ (u : Value) (k : Nat) (n : Nat) (ys : List Value) (BB : Nat), Sl wa BB TSr 1 u n ys → (∀ k, u.ownBlock = some k → vo.ownBlock ≠ some k) → u.ownBlock = some k → v'.ownBlock ≠ some k := fun u k n ys BB hs ha hk e => by
  rcases hb7 with e2 | e2
  ·exact ha k hk (e2.symm.trans e)
  ·have h1 := hs.own_lt hk
   have e3 := e2.symm.trans e
   cases e3
   omega
 have hslk : ∀ (u : Value) (n : Nat) (ys : List Value) (BB : Nat), Sl wa BB TSr 1 u n ys → (∀ k, u.ownBlock = some k → vo.ownBlock ≠ some k) → Sl (w7.setCell ⟨b, 2 + 8, none⟩ v') BB TSr 1 u n ys := fun u n ys BB hs ha =>
  (hs.keep fun bb c hbb _ hblk => hblk.keeps hkk7 (fun e => ha bb hbb e)).kp hst.2 (.inl (by decide))
 refine ⟨hst.1, ⟨hc.st.keeps hkA fun k hk hB => by have := hc.low k hk; have : B ≤ k := hB; omega, hc.low, mb, v', vr, M, by rw [hce]; rfl, ?_⟩, fun v => ⟨fun hv t ht he => absurd (he.symm.trans (hts t ht)) (by decide), fun hv t ht he => ?_⟩, hkA⟩
 ·refine ⟨hma.le, (hma.map.kp hk7).kp hst.2, hma.keys, fun e he => ?_, ?_, hslk _ _ _ _ hma.refs hma.apart, fun k hk => hap vr k _ _ _ hma.refs hma.apart hk, hma.nil⟩
  ·obtain ⟨p', hp', hq⟩ := hma.ents e he
   obtain ⟨vt, uu, r1, r2, r3, r4, r5⟩ := hq.blk
   exact ⟨p', hp', hq.le, vt, uu, (r1.kp hk7 (.inr (by decide))).kp hst.2 (.inr (by decide)), r2, hslk _ _ _ _ r3 r5, r4, fun k hk => hap uu k _ _ _ r3 r5 hk⟩
  ·have h1 := hs7.kp hst.2 (.inl (by decide))
   show Sl _ B TSr 1 _ (x.order ++ [x.name]).length (svs (x.order ++ [x.name]))
   rw [List.length_append, List.length_singleton]
   have e1 : svs (x.order ++ [x.name]) = svs x.order ++ [sv x.name] := by simp [svs]
   rw [e1]
   exact h1
 ·have hve : v = v' := by
   rw [hce] at hv
   simpa using hv.symm
  subst hve
  have hj := hpa.jobs t ht
  have hj7 := hp7.jobs t ht
  have hf1 := (hfa _).2 hv2 t ht he
  rw [he] at hj hj7
  refine JobFar.kpN hj7 ?_ hst.2 (by decide)
  obtain ⟨bm0, bp0, bt0, vm0, hf0, hb0, hs0, -⟩ := hj
  intro bm bp bt vm hfv hbv
  rw [hf0] at hfv
  have e1 : bm0 = bm := by simp at hfv; exact hfv.1
  subst e1
  have h2 := (hb0.kp hk7 (.inr (by decide))).inj hbv
  have e2 : vm = vm0 := by simpa using h2.1.symm
  subst e2
  exact (hpp7 0 vm _ _ hs0 (hf1 _ _ _ _ hf0 hb0)).2
set_option maxHeartbeats 800000 in
set_option maxRecDepth 100000 in
theorem pnodes_any {B b : Nat} {tail : PT} {ts : List (Job × Value)} {σ : PSt} {w : World} {vr vt vl va : Value} (h : PAt B b tail ts σ w vr vt vl va) :
 Calls Tryz.prog 155 #[.pointer (some ⟨b, 0, none⟩)] w fun ed w' => ed = .returned vl ∧ w = w' := by
 have c5 : w.cell? ⟨b, 5, none⟩ = some vl := (h.blk.cell 5).trans (pcells_get ..).2.2.2.2.2.1
 obtain ⟨la, lc, rfl, -, -⟩ := h.nodes.shape
 clear h
 go_enter Tryz.func155, Tryz.ntmps155
 go_wp2_with fail
 go_ret
 exact ⟨rfl, rfl⟩
set_option maxHeartbeats 6400000 in
set_option maxRecDepth 100000 in
theorem csum_any {B b : Nat} {tail : PT} {ts : List (Job × Value)} {σ : PSt} {w : World} {F : Nat → Prop} {s : Nat} (h : PA B b tail ts σ w) (hc : CAt w B tail σ.x F s) (nm : List UInt8) (hn : nm.length ≤ 1000) (p : Int)
 (hfx : FitX σ) (h30 : σ.nodes.length ≤ 30) (hB : σ.at' ≤ 549755813888) (hts : ∀ t ∈ ts, t.1 = nextJob) (hfar : FarM w tail.cells ts) :
 Calls Tryz.prog 130 #[.pointer (some ⟨b, 0, none⟩), sv nm, .int .i64 p] w (DidX B b ts (doJob .csum nm p σ) F s w) := by
 obtain ⟨sm, mb, L, M, vo, ra, rc, hrd, hmem, hcells, hr1, hr2⟩ := hc.rd h
 obtain ⟨hsmall, hplen⟩ := pack_room hfx.nsz h30
 have hnl : σ.x.name.length ≤ 1099511627776 := by have := hfx.name; omega
 have H0 := Lib.hid h
 have C0 := Lib.hid hc
 have HCE := Lib.hid hcells
 have HFX := Lib.hid hfx
 have HTS := Lib.hid hts
 have HFAR := Lib.hid hfar
 have HTE : Hid (Tryz.prog.underlying 82 = some (.map 9 81)) := Tryz.underlying82
 obtain ⟨ur, ut, ul, ua, hpa⟩ := h
 obtain ⟨la, lc, rfl, hl1, hl2⟩ := hpa.nodes.shape
 have HPA := Lib.hid hpa
 have hplt := hpa.lt
 have hple := hpa.le
 have c12 := hrd.c12
 have HND : Hid (∀ wx, Keeps Non w wx → Calls Tryz.prog 155 #[.pointer (some ⟨b, 0, none⟩)] wx fun ed w' => ed = .returned (.slice la σ.nodes.length lc) ∧ wx = w') := fun wx hk => pnodes_any (HPA.out.keeps hk)
 have HPK : Hid (∀ wx, Keeps Non w wx → Calls Tryz.prog 56 #[.slice la σ.nodes.length lc] wx fun e w' => e = .returned (.string ⟨(packP σ.nodes).toArray⟩) ∧ Keeps Non wx w') := fun wx hk => pack_any _ σ.nodes wx (HPA.out.nodes.rd.non hk) (by omega) hsmall hplen
 have HCC : Hid (∀ wx, Keeps Non w wx → wx.cell? ⟨b, 12, none⟩ = some (.slice ra σ.x.refs.length rc)) := fun wx hk => by
  have h1 := (tail_cell (HPA.out.keeps hk) 4).1
  rw [HCE.out] at h1
  exact h1
 have hcN : Keeps Non w w := Keeps.refl _ _
 have HPL := Lib.hid hplen
 unfold maxLen at hl2 hr2
 clear hc hrd hmem hcells hpa hsmall hfx hplen hts hfar
 unfold sv
 go_enter Tryz.func130, Tryz.ntmps130
 go_upto_region 0 with (fail)
 go_cut [6] (fun ev wx => ∃ q, ev = .pointer (some ⟨q, 0, none⟩) ∧ w.heap.size ≤ q ∧ Hid (Blk wx q #[sv (packP σ.nodes), .slice la σ.nodes.length lc, .slice ra σ.x.refs.length rc] TE) ∧ Hid (Keeps Non w wx))
 case first =>
  go_region_held3 (fun w' => w'.cell? ⟨b, 12, none⟩ = some (.slice ra σ.x.refs.length rc)) (first | exact c12 | exact HCC.out _ hcN | exact HCC.out _ hcN.drew | exact HCC.out _ (hcN.alloc _) | exact HCC.out _ (hcN.drew.alloc _)) (first
   | (go_at_call 155
      refine (HND.out _ (by first | exact hcN | exact hcN.drew)).mono ?_
      rintro e w2 ⟨rfl, rfl⟩)
   | (go_at_call 56
      refine (HPK.out _ (by first | exact hcN | exact hcN.drew)).mono ?_
      rintro e w2 ⟨rfl, hk⟩
      replace hcN := Keeps.tn hcN (by first | exact hk | exact hk.un)
      clear hk))
  all_goals (
   go_wp2_with fail
   go_meet
   refine ⟨_, rfl, hcN.size, Blk.new _ _ _, hcN.alloc _⟩)
 case rest =>
  obtain ⟨q, rfl, hq, HBE, HK1⟩ := hcut
  generalize wc = w1 at *
  have H1 := Lib.hid (H0.out.keeps HK1.out)
  have C1 := Lib.hid (C0.out.non HK1.out)
  clear c12 hcN HCC HND HPK
  obtain ⟨sm1, L1, M1, hrd1, hmem1⟩ := C1.out.rd2 H1.out HCE.out
  have c8 := hrd1.c8
  have c11 := hrd1.c11
  have cs := hrd1.cs
  have hlook : ∃ ov, (getM L1 σ.x.name).getD (.pointer none) = ov ∧ OldAt w1 F σ.x ov := by
   obtain ⟨sm2, L2, g1, g2, g3, g4, g5, g6⟩ := C1.out.st.map
   have e1 : sm2 = sm1 := by
    have := (g2.cell 0).symm.trans cs
    simpa using this
   subst e1
   have e2 : getM L1 σ.x.name = getM L2 σ.x.name := by
    cases hf : findE σ.x.has σ.x.name with
    | none =>
      rw [hrd1.hasN _ hf]
      rcases StoreAt.look g3 g5 g6 σ.x.name with ⟨-, g⟩ | ⟨e, p, g, -⟩
      ·exact g.symm
      ·rw [hf] at g; cases g
    | some e =>
      exact MapAt.get_inj hrd1.sm g3 _
   rw [e2]
   rcases StoreAt.look g3 g5 g6 σ.x.name with ⟨hf, hg⟩ | ⟨e, p, hf, -, -, hg, hE⟩
   ·exact ⟨_, rfl, .inl ⟨hf, by rw [hg]; rfl⟩⟩
   ·exact ⟨_, rfl, .inr ⟨e, p, hf, by rw [hg]; rfl, hE⟩⟩
  obtain ⟨ov, hov, hold⟩ := hlook
  have HOLD := Lib.hid hold
  have hovf : (∃ x, ov = .pointer x) := by
   rcases hold with ⟨-, e⟩ | ⟨e, q, -, h2, -⟩
   ·exact ⟨_, e⟩
   ·exact ⟨_, h2⟩
  have hlk : ∀ n, Sem.run Tryz.prog (Instr.lookup 82 (.map (some sm1)) (.string ⟨σ.x.name.toArray⟩) false) (w1.drewN n) = .ok ov (w1.drewN n) := fun n => by
   have h1 := run_lookup_map (P := Tryz.prog) (w := w1.drewN n) HTE.out Tryz.underlying9 (z := .pointer none) (Tryz.zeroValue81 _) (hrd1.sm.keeps (S := Non) ((Keeps.refl _ _).drewN n) (fun h => h)) hnl false
   rw [if_neg (by simp), hov] at h1
   exact h1
  clear hrd1 hmem1 hold hov
  unfold sv pv at *
  go_upto_region 1 with (fail)
  go_cut [7] (fun v wx => v = ov ∧ ∃ n, wx = w1.drewN n)
  case first =>
   obtain ⟨x, rfl⟩ := hovf
   go_quiet (fail)
   go_wp2_with fail
   go_meet
   exact ⟨rfl, _, rfl⟩
  case rest =>
   obtain ⟨rfl, nz, rfl⟩ := hcut
   have HK2 := Lib.hid (HK1.out.drewN nz)
   have H2 := Lib.hid (H1.out.keeps ((Keeps.refl _ _).drewN nz))
   have C2 := Lib.hid (C1.out.drewN nz)
   have HBE2 : Hid (Blk (w1.drewN nz) q #[sv (packP σ.nodes), .slice la σ.nodes.length lc, .slice ra σ.x.refs.length rc] TE) := HBE.out
   have HOLD2 := Lib.hid (HOLD.out.ge ((Keeps.refl (GE B) _).drewN nz) C1.out.low)
   clear HK1 H1 C1 HBE HOLD hlk c8 c11 cs
   generalize w1.drewN nz = w2 at *
   obtain ⟨sm2, L2, M2, hrd2, hmem2⟩ := C2.out.rd2 H2.out HCE.out
   have c9 := hrd2.c9
   have HMM := Lib.hid hrd2.mm
   have HCT := Lib.hid (fresh_count hmem2.keys)
   have HND : Hid ((M2.map Prod.fst).Nodup) := hmem2.map.nodup
   have hlen2 : (M2.map Prod.fst).length ≤ 549755813888 := by
    have h1 := hmem2.keys.length_eq
    have h9 := HFX.out.came
    have h10 : (σ.x.came.map Ent.path).length = σ.x.came.length := List.length_map ..
    omega
   have HLEN2 := Lib.hid hlen2
   clear hrd2 hmem2 hlen2
   go_wp2_with (first | (at_range; refine wpl_range _ rfl _ _ rfl _ _ HTE.out mb M2 rfl HMM.out ?_; intro w3 hit3 hk3 hs3))
   obtain ⟨ir, hir⟩ : ∃ ir, ir = w2.heap.size := ⟨_, rfl⟩
   rw [← hir] at hit3
   rw [← hir]
   have HIT3 := Lib.hid hit3
   have HIR : Hid (w2.heap.size ≤ ir) := by show _ ≤ _; omega
   have HK3 : Hid (Keeps Non w2 w3) := hk3
   clear hit3 hk3 hs3 hir c9
   go_frame
   go_loopg [8] (M2.map Prod.fst).length (fun gk cv wx => ∃ (todo : List (List UInt8)) (c : Nat), gk = todo.length ∧ cv = .int .i64 c ∧ Hid (MapIt wx ir mb M2 todo) ∧ Hid (todo.Nodup) ∧ Hid (c + todo.countP (fun p => (findE σ.x.has p).isNone) = freshN σ.x) ∧ Hid (Keeps Non w2 wx) ∧ Hid (c + todo.length ≤ 549755813888))
   case atStart => exact ⟨_, 0, rfl, rfl, HIT3, HND, by show _ = _; rw [Nat.zero_add]; exact HCT.out, HK3, by show _ ≤ _; rw [Nat.zero_add]; exact HLEN2.out⟩
   case round =>
    clear HIT3 HK3 HND HCT HLEN2 HMM
    obtain ⟨todo, c, rfl, rfl, HIT, HNO, HCN, HKW, HCL⟩ := hrel
    by_cases hemp : todo = []
    ·subst hemp
     have hc : c = freshN σ.x := by have := HCN.out; simpa using this
     subst hc
     have HMX := Lib.hid HIT.out.map
     have hfn := HCL.out
     simp only [List.length_nil, Nat.add_zero] at hfn
     have H4 := Lib.hid (H2.out.keeps HKW.out)
     have C4 := Lib.hid (C2.out.non HKW.out)
     have HBE4 := Lib.hid (HBE2.out.keeps HKW.out fun h => h)
     have HOLD4 := Lib.hid (HOLD2.out.ge HKW.out.ge C2.out.low)
     have HK4 := Lib.hid (HK2.out.tn HKW.out)
     go_upto_block 2 with (first | (at_next; refine wpl_next _ rfl _ rfl ir mb M2 [] rfl HIT.out (fun _ => ?_) (fun k v w' hk => absurd hk (by simp))))
     clear HIT HNO HCN HKW HCL H2 C2 HBE2 HOLD2 HK2 HIR HMX
     generalize wr = w4 at *
     go_cut [] (fun wx => Hid (∃ vr', PAt B b tail ts (σ.failIf (entErr σ.x σ.nodes nm) p) wx vr' ut (.slice la σ.nodes.length lc) ua) ∧ Hid (CAt wx B tail σ.x F s) ∧ Hid (Keeps (GE B) w wx) ∧ Hid (Blk wx q #[sv (packP σ.nodes), .slice la σ.nodes.length lc, .slice ra σ.x.refs.length rc] TE) ∧ Hid (FarM wx tail.cells ts))
     case first =>
      have cq := HBE4.out.cell 0
      simp only [List.getElem?_toArray, List.getElem?_cons_zero] at cq
      unfold sv at cq
      have hps : (⟨(packP σ.nodes).toArray⟩ : ByteArray).size ≤ maxLen := by
       have h1 := HPL.out
       show (packP σ.nodes).toArray.size ≤ maxLen
       rw [List.size_toArray]
       unfold maxLen
       omega
      obtain ⟨S, hS⟩ : ∃ S, sumOf (packP σ.nodes) = S := ⟨_, rfl⟩
      have HSUM := Lib.hid (sum_any ⟨(packP σ.nodes).toArray⟩ w4 hps)
      have HSV : Hid (sumOf (⟨(packP σ.nodes).toArray⟩ : ByteArray).data.toList = S) := hS
      have HSS := Lib.hid hS
      clear hps hS
      by_cases hsum : nm = S.data.toList
      ·have hb : (!nm == S.toList) = false := by rw [ByteArray.toList_eq, hsum]; simp
       have HSE := Lib.hid hsum
       clear hsum
       go_wp2_with fail
       refine HSUM.out.mono ?_
       rintro e w5 ⟨rfl, hk5⟩
       rw [HSV.out]
       have HKN5 := Lib.hid (HK4.out.tn hk5)
       have H5 := Lib.hid (HPA.out.keeps HKN5.out)
       have C5 := Lib.hid (C4.out.non hk5)
       have HBE5 := Lib.hid (HBE4.out.keeps hk5 fun h => h)
       have HOLD5 := Lib.hid (HOLD4.out.ge hk5.ge C4.out.low)
       have HK5 : Hid (Keeps (GE B) w w5) := (HK4.out.tn hk5).ge
       have HFM5 := Lib.hid (HFAR.out.kp H0.out (Kp.of_keeps (B := B) (Ts := []) HKN5.out) (by simp))
       clear hk5 H4 C4 HBE4 HOLD4 HK4 cq HSUM
       obtain ⟨sm5, L5, M5, hrd5, hmem5⟩ := C5.out.rd2 ⟨_, _, _, _, H5.out⟩ HCE.out
       have c8 := hrd5.c8
       have cs := hrd5.cs
       unfold pv at c8
       rcases HOLD5.out with ⟨hf, rfl⟩ | ⟨e, oq, hf, rfl, hE⟩
       ·have hmlen : ∀ ty, Sem.run Tryz.prog (Builtin.len_ #[82] ty #[.map (some sm5)]) w5 = .ok (.int .i64 σ.x.has.length) w5 := fun ty => by rw [← hrd5.len]; exact run_len_map HTE.out hrd5.sm ty
        have hten := C5.out.st.ok.ten
        clear hrd5 hmem5
        by_cases h10 : σ.x.has.length + freshN σ.x = 10
        ·have hb2 : (((σ.x.has.length : Int) + (freshN σ.x : Int)) == 10) = true := by rw [beq_iff_eq]; omega
         have HE : Hid (entErr σ.x σ.nodes nm = 14) := by show _ = _; unfold entErr; rw [HSS.out, if_neg (by simp [HSE.out]), hf]; simp only; rw [if_pos h10]
         clear h10 hf
         go_wp2_with fail
         refine (fail_at H5.out 14 p).mono ?_
         rintro e w6 ⟨rfl, h6, k6⟩
         have H6 := Lib.hid h6
         have C6 := Lib.hid (C5.out.kp k6 (by decide) (by decide))
         have K6 := Lib.hid (HK5.out.gg k6.ge)
         have HB6 := Lib.hid (HBE5.out.kp k6 (.inr (by decide)))
         have HFM6 := Lib.hid (HFM5.out.kp ⟨_, _, _, _, H5.out⟩ k6 (by decide))
         clear h6 k6
         go_wp2_with fail
         go_meet
         rw [HE.out]
         exact ⟨H6, C6, K6, HB6, HFM6⟩
        ·have hb2 : (((σ.x.has.length : Int) + (freshN σ.x : Int)) == 10) = false := by rw [beq_eq_false_iff_ne]; omega
         have HE : Hid (entErr σ.x σ.nodes nm = 0) := by show _ = _; unfold entErr; rw [HSS.out, if_neg (by simp [HSE.out]), hf]; simp only; rw [if_neg h10]
         clear h10 hf
         go_wp2_with fail
         go_meet
         rw [HE.out]
         exact ⟨⟨_, H5.out⟩, C5, HK5, HBE5, HFM5⟩
       ·have hnew : EntAt w5 (GE B) q (σ.x.ent σ.nodes) := by
         have hn5 := H5.out.nodes
         have hr5 := hmem5.refs
         exact ⟨by show B ≤ q; omega, _, _, HBE5.out, hn5.rd, hr5.rd, fun k hk => (hn5.own k hk).1, fun k hk => (hr5.own k hk).1⟩
        have HSAME := Lib.hid (sameE_any w5 hE hnew)
        unfold pv at HSAME
        clear hrd5 hmem5 hnew hE
        go_wp2_with fail
        refine HSAME.out.mono ?_
        rintro ed w6 ⟨rfl, nz6, rfl⟩
        have H6 := Lib.hid (H5.out.keeps ((Keeps.refl _ _).drewN nz6))
        have C6 := Lib.hid (C5.out.drewN nz6)
        have K6 := Lib.hid (HK5.out.drewN nz6)
        have HB6 : Hid (Blk (w5.drewN nz6) q #[sv (packP σ.nodes), .slice la σ.nodes.length lc, .slice ra σ.x.refs.length rc] TE) := HBE5.out
        have HFM6 : Hid (FarM (w5.drewN nz6) tail.cells ts) := HFM5.out
        cases hse : sameE e (σ.x.ent σ.nodes) with
        | true =>
          have HE : Hid (entErr σ.x σ.nodes nm = 0) := by show _ = _; unfold entErr; rw [HSS.out, if_neg (by simp [HSE.out]), hf]; simp only; rw [hse]; rfl
          clear hse hf
          go_wp2_with fail
          go_meet
          rw [HE.out]
          exact ⟨⟨_, H6.out⟩, C6, K6, HB6, HFM6⟩
        | false =>
          have HE : Hid (entErr σ.x σ.nodes nm = 12) := by show _ = _; unfold entErr; rw [HSS.out, if_neg (by simp [HSE.out]), hf]; simp only; rw [hse]; rfl
          clear hse hf
          go_wp2_with fail
          refine (fail_at H6.out 12 p).mono ?_
          rintro e w7 ⟨rfl, h7, k7⟩
          have H7 := Lib.hid h7
          have C7 := Lib.hid (C6.out.kp k7 (by decide) (by decide))
          have K7 := Lib.hid (K6.out.gg k7.ge)
          have HB7 := Lib.hid (HB6.out.kp k7 (.inr (by decide)))
          have HFM7 := Lib.hid (HFM6.out.kp ⟨_, _, _, _, H6.out⟩ k7 (by decide))
          clear h7 k7
          go_wp2_with fail
          go_meet
          rw [HE.out]
          exact ⟨H7, C7, K7, HB7, HFM7⟩
      ·have hb : (!nm == S.toList) = true := by rw [ByteArray.toList_eq]; simpa using hsum
       have HE : Hid (entErr σ.x σ.nodes nm = 16) := by show _ = _; unfold entErr; rw [HSS.out, if_pos hsum]
       clear hsum
       go_wp2_with fail
       refine HSUM.out.mono ?_
       rintro e w5 ⟨rfl, hk5⟩
       rw [HSV.out]
       have HKN5 := Lib.hid (HK4.out.tn hk5)
       have H5 := Lib.hid (HPA.out.keeps HKN5.out)
       have C5 := Lib.hid (C4.out.non hk5)
       have HBE5 := Lib.hid (HBE4.out.keeps hk5 fun h => h)
       have HK5 : Hid (Keeps (GE B) w w5) := (HK4.out.tn hk5).ge
       have HFM5 := Lib.hid (HFAR.out.kp H0.out (Kp.of_keeps (B := B) (Ts := []) HKN5.out) (by simp))
       clear hk5 H4 C4 HBE4 HOLD4 HK4 cq HSUM
       go_wp2_with fail
       refine (fail_at H5.out 16 p).mono ?_
       rintro e w6 ⟨rfl, h6, k6⟩
       have H6 := Lib.hid h6
       have C6 := Lib.hid (C5.out.kp k6 (by decide) (by decide))
       have K6 := Lib.hid (HK5.out.gg k6.ge)
       have HB6 := Lib.hid (HBE5.out.kp k6 (.inr (by decide)))
       have HFM6 := Lib.hid (HFM5.out.kp ⟨_, _, _, _, H5.out⟩ k6 (by decide))
       clear h6 k6
       go_wp2_with fail
       go_meet
       rw [HE.out]
       exact ⟨H6, C6, K6, HB6, HFM6⟩
     case rest =>
      obtain ⟨⟨vr5, hp5⟩, C5, HK5, HBE5, HFM5⟩ := hcut
      generalize wc = w5 at *
      clear H4 C4 HBE4 HOLD4 HK4
      obtain ⟨σ2, hσ2⟩ : ∃ σ2, σ.failIf (entErr σ.x σ.nodes nm) p = σ2 := ⟨_, rfl⟩
      have hn2 : σ2.nodes = σ.nodes := by rw [← hσ2]; exact (failIf_x ..).2
      rw [hσ2] at hp5
      have HSS := Lib.hid hσ2
      have HN2 := Lib.hid hn2
      have HP5 := Lib.hid hp5
      obtain ⟨sm5, L5, M5, hrd5, hmem5⟩ := C5.out.rd2 ⟨_, _, _, _, hp5⟩ HCE.out
      have c9 := hrd5.c9
      have c11 := hrd5.c11
      have HM5 := Lib.hid hmem5
      have HMM5 := Lib.hid hrd5.mm
      have hbq : B ≤ q := by omega
      clear hrd5 hmem5 hp5 hσ2 hn2
      unfold sv at c11
      go_upto_region 14 with (fail)
      go_cut [] (fun wx => Hid (MapAt wx mb (putM M5 σ.x.name (pv q))) ∧ Hid (Keeps (One mb) w5 wx) ∧ wx.heap.size = w5.heap.size)
      case first =>
       obtain ⟨w6, hmu, hm6, hk6, hs6⟩ : ∃ w6, Sem.run Tryz.prog (Instr.mapUpdate 82 (.map (some mb)) (.string ⟨σ.x.name.toArray⟩) (.pointer (some ⟨q, 0, none⟩))) w5.drew = .ok () w6 ∧ MapAt w6 mb (putM M5 σ.x.name (pv q)) ∧ Keeps (One mb) w5 w6 ∧ w6.heap.size = w5.heap.size := by
        obtain ⟨es, clock, hb, hM⟩ := HMM5.out
        obtain ⟨es', clock', h1, h2, h3, -⟩ := run_store_fine (P := Tryz.prog) (w := w5.drew) HTE.out Tryz.underlying9 hb hM (k := σ.x.name) hnl (pv q)
        exact ⟨_, h1, ⟨es', clock', (heap_set hb).1, h2⟩, ⟨h3.os, h3.tape, h3.output, h3.size, h3.block⟩, by simp⟩
       have HM6 := Lib.hid hm6
       have HKO6 := Lib.hid hk6
       clear hm6 hk6
       go_region_with (fail)
       all_goals (
        go_wp2_with fail
        go_meet
        exact ⟨HM6, HKO6, hs6⟩)
      case rest =>
       obtain ⟨HM6, HKO6, hs6⟩ := hcut
       generalize wc = w6 at *
       have hmid := csum_mid HP5.out HN2.out C5.out HCE.out HM5.out HFX.out.once hbq HBE5.out HFM5.out HTS.out HM6.out HKO6.out
       obtain ⟨hp6, hm6, hc6, hf6⟩ := hmid
       have hmble : B ≤ mb := hm6.le
       have HK6 : Hid (Keeps (GE B) w w6) := HK5.out.trans HKO6.out fun k hk => .inl (by cases hk; exact hmble)
       clear HM6 HKO6 hs6 c9 c11 HBE5 HK5 HFM5 C5 HM5 HMM5 HP5
       have c10 := (tail_cell hp6 2).1
       have c11 := (tail_cell hp6 3).1
       rw [HCE.out] at c10 c11
       simp only [List.getElem?_cons_zero, List.getElem?_cons_succ, Nat.reduceAdd] at c10 c11
       obtain ⟨oa, oc, rfl, ho1, ho2⟩ := hm6.order.shape
       have hsl := hm6.order
       have hosz := HFX.out.order
       have hbs := hp6.blk.lt
       have hlb := hp6.le
       have HP6 := Lib.hid hp6
       have HM6 := Lib.hid hm6
       have HC6 := Lib.hid hc6
       have HF6 := Lib.hid hf6
       have hordl : ({ σ.x with came := setE σ.x.came (σ.x.ent σ.nodes) } : CX).order.length = σ.x.order.length := rfl
       unfold maxLen at ho2
       rw [hordl] at hsl c10
       clear hp6 hm6 hc6 hf6 hordl
       obtain ⟨i0, hi, hi0, hi1, hi2⟩ := info_parts infoStrI
       go_upto_region 15 with (fail)
       go_region_law (refine step_append_own3 rfl _ _ 26 26 rfl 9 i0 _ 1 16 Tryz.underlying26 hi hi0 hi1 hi2 rfl B (.slice oa σ.x.order.length oc) _ _ rfl _ rfl 1 [.string ⟨σ.x.name.toArray⟩] (by simp; omega) (by first | exact hsl.alloc _ | exact hsl) (by first | exact Src.ofSl Tryz.underlying26 (Sl.of_new w6 0 (Nat.zero_le _) 9 1 1 [.string ⟨σ.x.name.toArray⟩] rfl (by simp [maxLen])) (by intro u hu; simp only [List.mem_cons, List.not_mem_nil, or_false] at hu; rcases hu with rfl; rfl)) (by unfold maxLen; omega) (by omega) ?_; intro ao cc w7 hs7 hk7 hkk7 hb7 hpp7; have HS7 := Lib.hid hs7; have HK7 : Hid (Kp B [TSr] (w6.alloc (.cells #[.string ⟨σ.x.name.toArray⟩] 9)) w7) := Kp.of_drew hk7; have HKK7 : Hid (Keeps (OwnOf (.slice oa σ.x.order.length oc)) (w6.alloc (.cells #[.string ⟨σ.x.name.toArray⟩] 9)) w7) := Keeps.of_drew hkk7; have HB7 := Lib.hid hb7; have HPP7 : Hid (∀ (B' : Nat) (t : Value) (k : Nat) (ys : List Value), Sl (w6.alloc (.cells #[.string ⟨σ.x.name.toArray⟩] 9)) B' TSr 1 t k ys → Ahead 1 (.slice oa σ.x.order.length oc) t → Sl w7 B' TSr 1 t k ys ∧ Ahead 1 (.slice ao (σ.x.order.length + 1) cc) t) := fun B' t k ys ht ha => hpp7 B' t k ys (by first | exact ht | exact ht.drewN 1) ha; have B7 := Lib.hid ((HP6.out.blk.alloc (.cells #[.string ⟨σ.x.name.toArray⟩] 9)).kp HK7.out (.inr (by decide))); have c107 : w7.cell? ⟨b, 10, none⟩ = some (.slice oa σ.x.order.length oc) := (B7.out.cell 10).trans (by simp [pcells, HCE.out]); have f107 := B7.out.free 10; clear hs7 hk7 hkk7 hb7 hpp7)
       all_goals (
        have hend := csum_end HP6.out HM6.out HC6.out HF6.out HCE.out HTS.out ((Keeps.refl Non _).alloc (.cells #[.string ⟨σ.x.name.toArray⟩] 9)) HS7.out HK7.out HKK7.out HB7.out HPP7.out
        obtain ⟨e1, e2, e3, e4⟩ := hend
        have E1 := Lib.hid e1
        have E2 := Lib.hid e2
        have E3 := Lib.hid e3
        have E4 := Lib.hid (HK6.out.gg e4)
        clear e1 e2 e3 e4 HS7 HK7 HKK7 HB7 HPP7 B7 c107 f107 hsl c10 c11 hi hi0 hi1 hi2
        go_wp2_with fail
        go_end0
        refine ⟨rfl, ⟨[], _, rfl, ?_, E2.out, ?_⟩, E4.out⟩
        ·rw [List.append_nil]
         have h6 : PA B b _ ts σ2 _ := ⟨_, _, _, _, E1.out⟩
         rw [← HSS.out] at h6
         exact h6.upx _
        ·rw [List.append_nil]
         exact E3.out)
    ·go_upto_region 6 with (first | (at_next; refine wpl_next _ rfl _ rfl ir mb M2 todo rfl HIT.out (fun h => absurd h hemp) ?_; intro k v9 w9 hkt hv9 hit9 hkp9 hsz9 hen9))
     have hkl : k.length ≤ 1099511627776 := by
      obtain ⟨es, c, -, hm⟩ := HIT.out.map
      exact hm.small _ ((getM_mem hm.keys).1 hv9)
     have hlt9 := filter_less hkt
     have hlen9 := HCL.out
     have HKW9 : Hid (Keeps Non w2 w9) := HKW.out.trans hkp9 fun j hj => .inr (by cases hj; exact HIR.out)
     have HIT9 := Lib.hid hit9
     have HNO9 : Hid ((todo.filter fun x => x != k).Nodup) := HNO.out.filter _
     have hcs := count_step (fr := fun p => (findE σ.x.has p).isNone) HNO.out hkt
     have hcn := HCN.out
     obtain ⟨sm5, L5, M5, hrd5, -⟩ := (C2.out.non HKW9.out).rd2 (H2.out.keeps HKW9.out) HCE.out
     have c8 := hrd5.c8
     have cs := hrd5.cs
     have HSM5 := Lib.hid hrd5.sm
     unfold sv at hen9
     unfold pv at c8
     cases hf : findE σ.x.has k with
     | none =>
       have HVAL : Hid ((getM L5 k).getD (.pointer none) = .pointer none) := by show _ = _; rw [hrd5.hasN _ hf]; rfl
       have HCN9 : Hid (c + 1 + (todo.filter fun x => x != k).countP (fun p => (findE σ.x.has p).isNone) = freshN σ.x) := by
        show _ = _
        rw [hf] at hcs
        simp only [Option.isNone_none, if_true] at hcs
        omega
       have HCL9 : Hid (c + 1 + (todo.filter fun x => x != k).length ≤ 549755813888) := by show _ ≤ _; omega
       have hcb : c + 1 ≤ 549755813888 := by omega
       clear hrd5 hcs hcn hf hemp HIT HNO HCN HKW HCL hkt hv9 hit9 hkp9 hsz9
       go_wp2_with (first | (at_lookup; refine wpl_look _ rfl _ _ _ rfl _ _ HTE.out Tryz.underlying9 (.pointer none) (Tryz.zeroValue81 _) sm5 L5 rfl HSM5.out k rfl hkl ?_; rw [HVAL.out]))
       go_roundg (todo.filter fun z => z != k).length
       case measure => exact hlt9
       case rel => exact ⟨_, c + 1, rfl, by go_num, HIT9, HNO9, HCN9, HKW9, HCL9⟩
     | some e =>
       obtain ⟨pe, hpe⟩ := hrd5.hasS _ _ hf
       have HVAL : Hid ((getM L5 k).getD (.pointer none) = .pointer (some ⟨pe, 0, none⟩)) := by show _ = _; rw [hpe]; rfl
       have HCN9 : Hid (c + (todo.filter fun x => x != k).countP (fun p => (findE σ.x.has p).isNone) = freshN σ.x) := by
        show _ = _
        rw [hf] at hcs
        simp only [Option.isNone_some, Bool.false_eq_true, if_false] at hcs
        omega
       have HCL9 : Hid (c + (todo.filter fun x => x != k).length ≤ 549755813888) := by show _ ≤ _; omega
       clear hrd5 hcs hcn hf hemp HIT HNO HCN HKW HCL hkt hv9 hit9 hkp9 hsz9 hpe hlen9
       go_wp2_with (first | (at_lookup; refine wpl_look _ rfl _ _ _ rfl _ _ HTE.out Tryz.underlying9 (.pointer none) (Tryz.zeroValue81 _) sm5 L5 rfl HSM5.out k rfl hkl ?_; rw [HVAL.out]))
       go_roundg (todo.filter fun z => z != k).length
       case measure => exact hlt9
       case rel => exact ⟨_, c, rfl, rfl, HIT9, HNO9, HCN9, HKW9, HCL9⟩
end Go.Proofs.YtdkogijdfgfpeaaGreatDoor

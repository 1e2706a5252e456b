/- (*tree.Parser).Tree: the strings of a tree must come. -/
import Derived.Test.YtdkogijdfgfpeaaGreatDoorZPAdd
import Derived.Test.YtdkogijdfgfpeaaGreatDoorZMap
import Derived.Test.YtdkogijdfgfpeaaGreatDoorZPName
set_option linter.unusedVariables false
namespace Go.Proofs.YtdkogijdfgfpeaaGreatDoor
open Go Go.RowKit
set_option maxHeartbeats 3200000
set_option maxRecDepth 100000
def WW(σ:aT):aT:={σ with nodes:=[],above:=[],path:=[]}
theorem WX{B b:Nat}{tail:PT}{ts:List (Job×Value)}{σ:aT}{w:World}(h:PA B b tail ts σ w)(ht:ts.length≤1099511627000):
 Calls Tryz.prog 115 #[.pointer (some ⟨b,0,none⟩)] w fun ed w'=>ed=.returned (.tuple #[])∧(∃us:List (Job×Value),(us.map Prod.fst).reverse=qV∧PA B b tail (ts++us) (WW σ) w')∧Kp B pJ w w':=by
 obtain⟨vr,vt,vl,va,h⟩:=h
 obtain⟨g0,g1,g2,g3,g4,g5,g6,g7⟩:=aY vr σ.at' σ.err σ.bad vt vl va σ.path tail.cells
 have c5:=(h.blk.cell 5).trans g5
 have c6:=(h.blk.cell 6).trans g6
 have c7:=(h.blk.cell 7).trans g7
 have f5:=h.blk.free 5
 have f6:=h.blk.free 6
 have f7:=h.blk.free 7
 have b1:=h.blk.set 5 (.slice none 0 0)
 rw[(fP ..).2.2.2.2.2.1] at b1
 have b2:=b1.set 6 (.slice none 0 0)
 rw[(fP ..).2.2.2.2.2.2.1] at b2
 have b3:=b2.set 7 (sv [])
 rw[(fP ..).2.2.2.2.2.2.2] at b3
 have k3:=((h.wF 5 (.slice none 0 0)).set b1 (.inr ⟨h.le,by simp⟩) 6 (.slice none 0 0)).set b2 (.inr ⟨h.le,by simp⟩) 7 (sv [])
 obtain⟨p1,p2,-,-,p5,p6⟩:=h.parts k3
 have h3:pq B b tail ts (WW σ) (((w.setCell ⟨b,5,none⟩ (.slice none 0 0)).setCell ⟨b,6,none⟩ (.slice none 0 0)).setCell ⟨b,7,none⟩ (sv [])) vr vt (.slice none 0 0) (.slice none 0 0):=⟨b3,h.le,p1,p2,Sl.nil _ _ _ _,Sl.nil _ _ _ _,p5,fun t ht=>⟨(p6 t ht).1,tN _ _ _ _⟩⟩
 have hown:∀k,vt.ownBlock=some k→k<w.heap.size:=fun k hk=>h.todo.pR hk
 have HOWN:=Lib.hid hown
 have hsz3:(((w.setCell ⟨b,5,none⟩ (.slice none 0 0)).setCell ⟨b,6,none⟩ (.slice none 0 0)).setCell ⟨b,7,none⟩ (sv [])).heap.size=w.heap.size:=by simp[World.setCell]
 have H3:=Lib.hid h3
 have K3:=Lib.hid k3
 clear g0 g1 g2 g3 g4 g5 g6 g7 b1 b2 b3 k3 h3 h p1 p2 p5 p6 hown
 unfold sv at H3 K3 c7 hsz3
 go_enter Tryz.func115,Tryz.ntmps115
 go_upto_region 1 with(fail)
 obtain⟨i0,hi,hz0,hz1,hz2⟩:=info_parts ER
 have hbw:=H3.out.blk.lt
 generalize ((w.setCell ⟨b,5,none⟩ (.slice none 0 0)).setCell ⟨b,6,none⟩ (.slice none 0 0)).setCell ⟨b,7,none⟩ (.string ⟨#[]⟩)=w1 at *
 have CJ:=Lib.hid hsz3
 clear c5 c6 c7 f5 f6 f7 hsz3
 go_wp2_with fail
 refine(fH b [nT] .none _ _ (aP w1 1 _ [nT] _ rfl rfl rfl (by simp))).mono ?_
 rintro e w2 ⟨f1,rfl,hj2,hk2⟩
 have hk12:Keeps Non w1 w2:=((Keeps.refl _ _).alloc _).trans hk2 (fun k hk=>.inl hk)
 have J2:=Lib.hid hj2
 have K2:=Lib.hid hk12
 clear hj2 hk2 hk12
 go_wp2_with fail
 have hw1:=zI (w:=w2) [((.word [nT] .none:Job),f1)] 1 _ _ rfl rfl rfl (by omega)
 refine(MX b _).mono ?_
 rintro e w3 ⟨n1,n2,n3,bl,rfl,ad3,ah7,hj3,hk3⟩
 have hz:=K2.out.size
 have HW1:Hid (Sl w3 0 113 2 (.slice (some ⟨w2.heap.size,0,none⟩) 1 1) 1 (aW [((.word [nT] .none:Job),f1)])):=hw1.kp (Kp.aI (B:=0) (Ts:=[]) hk3) (.inl (by simp))
 have nY:Keeps Non w2 w3:=((Keeps.refl _ _).alloc _).trans hk3 (fun k hk=>.inl hk)
 have K3':=Lib.hid (K2.out.trans nY (fun k hk=>.inl hk))
 have J3:=Lib.hid (J2.out.keeps nY)
 have VR:=Lib.hid ad3
 have HJ3:=Lib.hid hj3
 have ad4:Hid (w1.heap.size≤w3.heap.size):=K3'.out.size
 generalize w2.heap.size=z at *
 have HZ:Hid (w1.heap.size≤z):=hz
 clear hw1 ah7 hk3 nY J2 K2 ad3 hj3 hz
 go_wp2_with (at_builtin;refine ay rfl _ _ 103 103 rfl 113 i0 _ 2 16 Tryz.underlying103 hi hz0 hz1 hz2 rfl 0 _ 1 (aW [((.word [nT] .none:Job),f1)]) rfl _ rfl 3 (aW (ru n1 n2 n3)) (Nat.zero_le _) HW1.out ?c2 ?c3 ?c4 ?_)
 case c2=>exact Src.kP Tryz.underlying103 VR.out (Fa (fun t ht=>(HJ3.out t ht).one))
 case c3=>unfold maxLen;omega
 case c4=>omega
 intro ao cc w4 hs4 hk4 zi hb4
 have sub:∀T∈([113]:List TypeId),T∈zF:=by intro T hT;simp only[List.mem_singleton] at hT;subst hT;simp
 have K4:Hid (Keeps Non w1 w4):=K3'.out.trans zi (fun k hk=>.inr (by cases hk;exact HZ.out))
 have HB4:Hid (∀k,(Value.slice ao (1+3) cc).ownBlock=some k→w1.heap.size≤k):=fun k hk=>by
  rcases hb4 with e|e
  ·rw[e] at hk;cases hk;exact HZ.out
  ·rw[e] at hk;cases hk;exact ad4.out
 obtain⟨us,hus⟩:∃us:List (Job×Value),us=[((.word [nT] .none:Job),f1)]++ru n1 n2 n3:=⟨_,rfl⟩
 have HJ4:Hid (∀t∈us,dD w4 b t.1 t.2):=by
  intro t ht
  refine dD.kp ?_ hk4 sub
  rw[hus] at ht
  rcases List.mem_append.1 ht with ht|ht
  ·obtain rfl:=List.mem_singleton.1 ht
   exact J3.out
  ·exact HJ3.out t ht
 have QG:us.length=1+3:=by rw[hus];rfl
 have hs4':Sl w4 0 113 2 (.slice ao (1+3) cc) us.length (aW us):=by
  rw[QG,hus,iR]
  exact hs4
 obtain⟨bl2,ol2,cp2,hsh,-,-,-,-,-,-⟩:=hs4'.pos (by omega)
 rw[QG] at hsh
 cases hsh
 have hmap:us.map Prod.fst=qV:=by rw[hus];rfl
 have abj:=Lib.hid hmap
 have HUL:=Lib.hid QG
 have hpl:=ES (H3.out.keeps K4.out) us bl2 ol2 cc (by rw[QG] at hs4' ⊢;exact hs4') (by intro e;have h1:=HB4.out bl2 rfl;have h2:=HOWN.out bl2 e;have h3:=CJ.out;omega) HJ4.out (by rw[QG];omega)
 have Uc:=Lib.hid hpl
 clear hs4 hs4' hk4 zi hb4 hus QG hmap hpl HB4 J3 HJ3 HJ4 HZ ad4 hi hz0 hz1 hz2 HW1 VR K3'
 rw[HUL.out] at Uc
 go_wp2_with fail
 refine Uc.out.mono ?_
 rintro e w5 ⟨rfl,h5,k5⟩
 have H5:=Lib.hid h5
 have K5:Hid (Kp B pJ w w5):=((K3.out.mono (.inr ⟨Nat.le_refl _,by simp⟩)).trans (Kp.aI K4.out)).trans (k5.mono (.inr ⟨Nat.le_refl _,by simp⟩))
 clear h5 k5
 go_wp2_with fail
 go_end0
 refine⟨rfl,⟨us.reverse,?_,H5.out⟩,K5.out⟩
 simp only[List.map_reverse,List.reverse_reverse]
 exact abj.out
abbrev Cm:TypeId:=9
def GE(B:Nat):Nat→Prop:=fun k=>B≤k
theorem Kp.ge{B:Nat}{Ts:List TypeId}{w w':World}(h:Kp B Ts w w'):Keeps (GE B) w w':=
 ⟨h.os,h.tape,h.output,h.size,fun k hk hn=>by
  rcases h.block k hk with e|⟨hb,-⟩
  ·exact e
  ·exact absurd hb hn⟩
theorem Keeps.ge{B:Nat}{w w':World}(h:Keeps Non w w'):Keeps (GE B) w w':=h.mono fun _ _ h=>h.elim
theorem Keeps.gg{B:Nat}{a b c:World}(h:Keeps (GE B) a b)(k:Keeps (GE B) b c):Keeps (GE B) a c:=h.trans k fun _ h=>.inl h
theorem MapAt.kp{w w':World}{b B:Nat}{m:bY}{Ts:List TypeId}(h:MapAt w b m)(k:Kp B Ts w w'):MapAt w' b m:=by
 obtain⟨es,clock,hb,hm⟩:=h
 refine⟨es,clock,?_,hm⟩
 rcases k.block b (Array.getElem?_eq_some_iff.1 hb).1 with e|⟨-,c,c',T,-,b1,-⟩
 ·exact e.trans hb
 ·unfold aS at b1
  rw[hb] at b1
  cases b1
structure Tn(w:World)(B:Nat)(tail:PT)(vo vr:Value)(p:Nat)(e:dI):Prop where
 le:B≤p
 blk:∃vt ur,aS w p #[sv (aJ e.tree),vt,ur] TE∧(vt,e.tree)∈tail.trees∧Sl w B Cm 1 ur e.refs.length (bf e.refs)∧Ahead 1 vr ur∧∀k,ur.ownBlock=some k→vo.ownBlock≠some k
structure CB(w:World)(B:Nat)(tail:PT)(x:CX)(mb:Nat)(vo vr:Value)(m:bY):Prop where
 le:B≤mb
 map:MapAt w mb m
 keys:(m.map Prod.fst).Perm (x.came.map dI.path)
 ents:∀e∈x.came,∃p,getM m e.path=some (pv p)∧Tn w B tail vo vr p e
 order:Sl w B Cm 1 vo x.order.length (bf x.order)
 refs:Sl w B Cm 1 vr x.refs.length (bf x.refs)
 apart:∀k,vr.ownBlock=some k→vo.ownBlock≠some k
 nil:x.refs=[]→vr=.slice none 0 0
structure vG(w:World)(B:Nat)(tail:PT)(x:CX)(F:Nat→Prop)(s:Nat):Prop where
 st:aU w F s x.has
 low:∀k,F k→k<B
 mem:∃mb vo vr m,tail.cells=[pv s,.map (some mb),vo,sv x.name,vr]∧CB w B tail x mb vo vr m
theorem Tn.kp{w w':World}{B:Nat}{tail:PT}{vo vr:Value}{p:Nat}{e:dI}{Ts:List TypeId}(h:Tn w B tail vo vr p e)(k:Kp B Ts w w')(h1:TE∉Ts)(h2:Cm∉Ts):Tn w' B tail vo vr p e:=by
 obtain⟨vt,ur,q1,q2,q3,q4,q5⟩:=h.blk
 exact⟨h.le,vt,ur,q1.kp k (.inr h1),q2,q3.kp k (.inl h2),q4,q5⟩
theorem CB.kp{w w':World}{B:Nat}{tail:PT}{x:CX}{mb:Nat}{vo vr:Value}{m:bY}{Ts:List TypeId}(h:CB w B tail x mb vo vr m)(k:Kp B Ts w w')(h1:TE∉Ts)(h2:Cm∉Ts):CB w' B tail x mb vo vr m:=
 ⟨h.le,h.map.kp k,h.keys,fun e he=>by
  obtain⟨p,hp,hq⟩:=h.ents e he
  exact⟨p,hp,hq.kp k h1 h2⟩,h.order.kp k (.inl h2),h.refs.kp k (.inl h2),h.apart,h.nil⟩
theorem vG.kp{w w':World}{B:Nat}{tail:PT}{x:CX}{F:Nat→Prop}{s:Nat}{Ts:List TypeId}(h:vG w B tail x F s)(k:Kp B Ts w w')(h1:TE∉Ts)(h2:Cm∉Ts):vG w' B tail x F s:=by
 obtain⟨mb,vo,vr,m,q1,q2⟩:=h.mem
 exact⟨h.st.keeps k.ge fun b hb hB=>by have:=h.low b hb;have:B≤b:=hB;omega,h.low,mb,vo,vr,m,q1,q2.kp k h1 h2⟩
theorem vG.non{w w':World}{B:Nat}{tail:PT}{x:CX}{F:Nat→Prop}{s:Nat}(h:vG w B tail x F s)(k:Keeps Non w w'):vG w' B tail x F s:=h.kp (Kp.aI (B:=B) (Ts:=[]) k) (by simp) (by simp)
theorem vG.drewN{w:World}{B:Nat}{tail:PT}{x:CX}{F:Nat→Prop}{s:Nat}(h:vG w B tail x F s)(n:Nat):vG (w.drewN n) B tail x F s:=h.non ((Keeps.refl _ _).drewN n)
theorem xH{B b:Nat}{tail:PT}{ts:List (Job×Value)}{σ:aT}{w:World}{vr vt vl va:Value}(H:pq B b tail ts σ w vr vt vl va)(j:Nat)(d:Value):
 pq B b ⟨tail.cells.set j d,tail.trees⟩ ts σ (w.setCell ⟨b,j+8,none⟩ d) vr vt vl va∧Kp B [TB] w (w.setCell ⟨b,j+8,none⟩ d):=by
 have k:=H.wF (j+8) d
 have b1:=H.blk.set (j+8) d
 have e:(eF vr (σ.at':Int) σ.err σ.bad vt vl va σ.path tail.cells).setIfInBounds (j+8) d=eF vr (σ.at':Int) σ.err σ.bad vt vl va σ.path (tail.cells.set j d):=by
  simp only[eF,List.setIfInBounds_toArray]
  rfl
 rw[e] at b1
 obtain⟨p1,p2,p3,p4,p5,p6⟩:=H.parts k
 exact⟨⟨b1,H.le,p1,p2,p3,p4,p5,p6⟩,k⟩
theorem iF{B b:Nat}{tail:PT}{ts:List (Job×Value)}{σ:aT}{w:World}{vr vt vl va:Value}(H:pq B b tail ts σ w vr vt vl va)(j:Nat):w.cell? ⟨b,j+8,none⟩=tail.cells[j]? ∧w.frozen? ⟨b,j+8,none⟩=false:=by
 refine⟨(H.blk.cell _).trans ?_,H.blk.free _⟩
 simp[eF]
theorem nZ.kp{w w':World}{b B:Nat}{v f:Value}{Ts:List TypeId}(hj:dD w b fC f)(h:nZ w v f)(k:Kp B Ts w w')(hT:26∉Ts):nZ w' v f:=by
 intro bm bp bt vm hfv hbv
 obtain⟨Zc,bp0,bt0,Zd,hf0,hb0,-⟩:=hj
 rw[hf0] at hfv
 have e1:Zc=bm:=by simp at hfv;exact hfv.1
 subst e1
 have h2:=(hb0.kp k (.inr hT)).inj hbv
 have e2:vm=Zd:=by simpa using h2.1.symm
 subst e2
 exact h _ _ _ _ hf0 hb0
def pK(w:World)(cells:List Value)(ts:List (Job×Value)):Prop:=∀v,(cells[4]? =some v→∀t∈ts,t.1=fC→nZ w v t.2)∧(cells[2]? =some v→∀t∈ts,t.1=gU→nZ w v t.2)
theorem nZ.kpN{w w':World}{b B:Nat}{v f:Value}{Ts:List TypeId}{may:List (List UInt8)}{act:vw}(hj:dD w b (.word may act) f)(h:nZ w v f)(k:Kp B Ts w w')(hT:26∉Ts):nZ w' v f:=by
 intro bm bp bt vm hfv hbv
 obtain⟨Zc,bp0,bt0,Zd,hf0,hb0,-⟩:=hj
 rw[hf0] at hfv
 have e1:Zc=bm:=by simp at hfv;exact hfv.1
 subst e1
 have h2:=(hb0.kp k (.inr hT)).inj hbv
 have e2:vm=Zd:=by simpa using h2.1.symm
 subst e2
 exact h _ _ _ _ hf0 hb0
theorem pK.kp{w w':World}{B B' b:Nat}{tail:PT}{cells:List Value}{ts:List (Job×Value)}{σ:aT}{Ts:List TypeId}(h0:PA B b tail ts σ w)(h:pK w cells ts)(k:Kp B' Ts w w')(hT:26∉Ts):pK w' cells ts:=by
 obtain⟨ur,ut,ul,ua,hpa⟩:=h0
 refine fun v=>⟨fun hv t ht he=>?_,fun hv t ht he=>?_⟩
 ·have hj:=hpa.jobs t ht
  rw[he] at hj
  exact((h v).1 hv t ht he).kpN hj k hT
 ·have hj:=hpa.jobs t ht
  rw[he] at hj
  exact((h v).2 hv t ht he).kpN hj k hT
theorem pK.of_nil{w w':World}{B:Nat}{tail:PT}{x:CX}{F:Nat→Prop}{s:Nat}(hc:vG w B tail x F s)(hx:x.refs=[])(ts:List (Job×Value))(hn:∀t∈ts,t.1≠gU):pK w' tail.cells ts:=by
 obtain⟨mb,vo,vr,m,hcells,hmem⟩:=hc.mem
 rw[hmem.nil hx] at hcells
 rw[hcells]
 refine fun v=>⟨fun hv t ht he bm bp bt vm hfv hbv=>?_,fun hv t ht he=>absurd he (hn t ht)⟩
 simp only[List.getElem?_cons_succ,List.getElem?_cons_zero,Option.some.injEq] at hv
 subst hv
 exact tN _ _ _ _
def Fe(B b:Nat)(ts:List (Job×Value))(r:List Job×aT)(F:Nat→Prop)(s:Nat)(w:World)(ed:Ending)(w':World):Prop:=
 ed=.returned (.tuple #[])∧(∃(us:List (Job×Value)) (tail':PT),(us.map Prod.fst).reverse=r.1∧PA B b tail' (ts++us) r.2 w'∧vG w' B tail' r.2.x F s∧pK w' tail'.cells (ts++us))∧Keeps (GE B) w w'
theorem Did.x{B b:Nat}{tail:PT}{ts:List (Job×Value)}{σ:aT}{r:List Job×aT}{F:Nat→Prop}{s:Nat}{x:CX}{w w':World}{ed:Ending}(h:Did B b tail ts r w ed w')(h0:PA B b tail ts σ w)(hc:vG w B tail x F s)(hf:pK w tail.cells ts)(hx:r.2.x=x):Fe B b ts r F s w ed w':=by
 obtain⟨h1,⟨us,h2,h3,hn⟩,h4⟩:=h
 refine⟨h1,⟨us,tail,h2,h3,?_,?_⟩,h4.ge⟩
 ·rw[hx]
  exact hc.kp h4 (by decide) (by decide)
 ·obtain⟨mb,vo,vr,m,hcells,hmem⟩:=hc.mem
  refine fun v=>⟨fun hv t ht he=>?_,fun hv t ht he=>?_⟩
  ·rcases List.mem_append.1 ht with ht|ht
   ·exact((hf.kp h0 h4 (by decide)) v).1 hv t ht he
   ·rw[hcells] at hv
    simp only[List.getElem?_cons_succ,List.getElem?_cons_zero,Option.some.injEq] at hv
    subst hv
    exact hn _ _ _ _ hmem.refs t ht (.inl he)
  ·rcases List.mem_append.1 ht with ht|ht
   ·exact((hf.kp h0 h4 (by decide)) v).2 hv t ht he
   ·rw[hcells] at hv
    simp only[List.getElem?_cons_succ,List.getElem?_cons_zero,Option.some.injEq] at hv
    subst hv
    exact hn _ _ _ _ hmem.order t ht (.inr he)
theorem CB.look{w:World}{B:Nat}{tail:PT}{x:CX}{mb:Nat}{vo vr:Value}{m:bY}(h:CB w B tail x mb vo vr m)(k:List UInt8):
 (aA x.came k=none∧getM m k=none)∨∃e p,aA x.came k=some e∧e∈x.came∧e.path=k∧getM m k=some (pv p):=by
 cases hf:aA x.came k with
 |none=>
  left
  refine⟨rfl,getM_none.2 fun y hy e2=>?_⟩
  have h1:y.1∈x.came.map dI.path:=h.keys.mem_iff.1 (List.mem_map.2 ⟨y,hy,rfl⟩)
  obtain⟨e,he,hex⟩:=List.mem_map.1 h1
  exact gB.1 hf e he (hex.trans e2)
 |some e=>
  right
  obtain⟨he,rfl⟩:=jV hf
  obtain⟨p,hp,-⟩:=h.ents e he
  exact⟨e,p,rfl,he,rfl,hp⟩
theorem PA.upx{B b:Nat}{tail:PT}{ts:List (Job×Value)}{σ:aT}{w:World}(h:PA B b tail ts σ w)(y:CX):PA B b tail ts {σ with x:=y} w:=by
 obtain⟨vr,vt,vl,va,h⟩:=h
 exact⟨vr,vt,vl,va,h.blk,h.le,h.rest,h.todo,h.nodes,h.above,h.jobs,h.kept⟩
theorem Tq{B b:Nat}{tail:PT}{ts:List (Job×Value)}{σ:aT}{w:World}{F:Nat→Prop}{s:Nat}(h:PA B b tail ts σ w)(hc:vG w B tail σ.x F s)(nm:List UInt8)(hn:nm.length≤1000)(p:Int)(ht:ts.length≤1099511626000)(hts:∀t∈ts,t.1≠gU):
 Calls Tryz.prog 80 #[.pointer (some ⟨b,0,none⟩),sv nm,.int .i64 p] w (Fe B b ts (aN .jB nm p σ) F s w):=by
 have H0:=Lib.hid h
 have C0:=Lib.hid hc
 have HTS:=Lib.hid hts
 have yc:Hid (Tryz.prog.underlying 82=some (.map 9 81)):=Tryz.underlying82
 clear h hc hts
 unfold sv
 go_enter Tryz.func80,Tryz.ntmps80
 go_upto_block 0 with(fail)
 go_cut [] (fun wx=>Hid (PA B b tail ts (σ.aO (dG σ.x nm) p) wx)∧Hid (vG wx B tail σ.x F s)∧Hid (Keeps (GE B) w wx))
 case first=>
  go_wp2_with fail
  refine(Kt ⟨nm.toArray⟩ w).mono ?_
  rintro e w1 ⟨rfl,hk1⟩
  have H1:=Lib.hid (H0.out.keeps hk1)
  have C1:=Lib.hid (C0.out.non hk1)
  have K1:Hid (Keeps (GE B) w w1):=hk1.ge
  clear hk1
  have hpb:fF (⟨nm.toArray⟩:ByteArray).data.toList=fF nm:=rfl
  rw[hpb]
  by_cases hp:fF nm=true
  ·rw[hp]
   obtain⟨mb,vo,vr,m,hcells,hmem⟩:=C1.out.mem
   obtain⟨ur,ut,ul,ua,hpa⟩:=H1.out
   have c9:=(iF hpa 1).1
   rw[hcells] at c9
   simp only[List.getElem?_cons_zero,List.getElem?_cons_succ,Nat.reduceAdd] at c9
   have KG:=Lib.hid hmem.map
   rcases hmem.look nm with⟨hf,hg⟩|⟨e,q,hf,-,-,hg⟩
   ·have iG:Hid ((getM m nm).getD (.pointer none)=.pointer none):=by show _=_;rw[hg];rfl
    have HE:Hid (dG σ.x nm=0):=by show _=_;unfold dG;rw[hp,hf];rfl
    clear hf hg hpa hmem hcells hpb
    go_wp2_with (at_lookup;refine eG _ rfl _ _ _ rfl _ _ yc.out Tryz.underlying9 (.pointer none) (Tryz.zeroValue81 _) mb m rfl KG.out nm rfl (by omega) ?_;rw[iG.out])
    go_meet
    rw[HE.out]
    exact⟨H1,C1,K1⟩
   ·have iG:Hid ((getM m nm).getD (.pointer none)=.pointer (some ⟨q,0,none⟩)):=by show _=_;rw[hg];rfl
    have HE:Hid (dG σ.x nm=7):=by show _=_;unfold dG;rw[hp,hf];rfl
    clear hf hg hpa hmem hcells hpb
    go_wp2_with (at_lookup;refine eG _ rfl _ _ _ rfl _ _ yc.out Tryz.underlying9 (.pointer none) (Tryz.zeroValue81 _) mb m rfl KG.out nm rfl (by omega) ?_;rw[iG.out])
    refine(kH H1.out 7 p).mono ?_
    rintro e w2 ⟨rfl,h2,k2⟩
    have H2:=Lib.hid h2
    have C2:=Lib.hid (C1.out.kp k2 (by decide) (by decide))
    have K2:=Lib.hid (K1.out.gg k2.ge)
    clear h2 k2
    go_wp2_with fail
    go_meet
    rw[HE.out]
    exact⟨H2,C2,K2⟩
  ·have hp0:fF nm=false:=by simpa using hp
   rw[hp0]
   have HE:Hid (dG σ.x nm=11):=by show _=_;unfold dG;rw[hp0];rfl
   clear hp hp0 hpb
   go_wp2_with fail
   refine(kH H1.out 11 p).mono ?_
   rintro e w2 ⟨rfl,h2,k2⟩
   have H2:=Lib.hid h2
   have C2:=Lib.hid (C1.out.kp k2 (by decide) (by decide))
   have K2:=Lib.hid (K1.out.gg k2.ge)
   clear h2 k2
   go_wp2_with fail
   go_meet
   rw[HE.out]
   exact⟨H2,C2,K2⟩
 case rest=>
  obtain⟨H2,C2,K2⟩:=hcut
  generalize wc=w2 at *
  obtain⟨σ2,hσ2⟩:∃σ2,σ.aO (dG σ.x nm) p=σ2:=⟨_,rfl⟩
  rw[hσ2] at H2
  have rD:=Lib.hid hσ2
  obtain⟨mb,vo,vr,m,hcells,hmem⟩:=C2.out.mem
  obtain⟨ur,ut,ul,ua,hpa⟩:=H2.out
  have c11:=iF hpa 3
  have c12:=iF hpa 4
  rw[hcells] at c11 c12
  simp only[List.getElem?_cons_zero,List.getElem?_cons_succ,Nat.reduceAdd] at c11 c12
  obtain⟨c11,f11⟩:=c11
  obtain⟨c12,f12⟩:=c12
  have hs1:=xH hpa 3 (sv nm)
  have hs2:=xH hs1.1 4 (.slice none 0 0)
  have hk2:Kp B [TB] w2 ((w2.setCell ⟨b,11,none⟩ (sv nm)).setCell ⟨b,12,none⟩ (.slice none 0 0)):=hs1.2.trans hs2.2
  have H3:Hid (PA B b ⟨(tail.cells.set 3 (sv nm)).set 4 (.slice none 0 0),tail.trees⟩ ts σ2 ((w2.setCell ⟨b,11,none⟩ (sv nm)).setCell ⟨b,12,none⟩ (.slice none 0 0))):=⟨_,_,_,_,hs2.1⟩
  have C3:Hid (vG ((w2.setCell ⟨b,11,none⟩ (sv nm)).setCell ⟨b,12,none⟩ (.slice none 0 0)) B ⟨(tail.cells.set 3 (sv nm)).set 4 (.slice none 0 0),tail.trees⟩ (σ.x.start nm) F s):=by
   have hcm:=C2.out.kp hk2 (by decide) (by decide)
   obtain⟨mb',vo',vr',m',q1,q2⟩:=hcm.mem
   refine⟨hcm.st,hcm.low,mb',vo',.slice none 0 0,m',by rw[q1];rfl,q2.le,q2.map,q2.keys,fun e he=>?_,q2.order,Sl.nil _ _ _ _,(fun k hk=>by cases hk),fun _=>rfl⟩
   obtain⟨p',hp',hq⟩:=q2.ents e he
   obtain⟨vt,uu,r1,r2,r3,r4,r5⟩:=hq.blk
   exact⟨p',hp',hq.le,vt,uu,r1,r2,r3,tN _ _ _ _,r5⟩
  have K3:=Lib.hid (K2.out.gg hk2.ge)
  clear hs1 hs2 hk2 hpa hmem hcells hσ2 H2 C2 K2
  unfold sv at H3 C3 K3
  go_upto_region 5 with(fail)
  generalize (w2.setCell ⟨b,11,none⟩ (.string ⟨nm.toArray⟩)).setCell ⟨b,12,none⟩ (.slice none 0 0)=w3 at *
  clear c11 c12 f11 f12
  have htl:=ht
  go_cut [] (fun wx=>∃us:List (Job×Value),Hid ((us.map Prod.fst).reverse=[.word [fQ] .none,fC])∧us.length=2∧Hid (PA B b ⟨(tail.cells.set 3 (.string ⟨nm.toArray⟩)).set 4 (.slice none 0 0),tail.trees⟩ (ts++us) σ2 wx)∧Hid (vG wx B ⟨(tail.cells.set 3 (.string ⟨nm.toArray⟩)).set 4 (.slice none 0 0),tail.trees⟩ (σ.x.start nm) F s)∧Hid (Keeps (GE B) w wx))
  case first=>
   go_region_held3 (fun _=>True) (trivial) (first
    |(go_at_call 46
      fail_if_success (have hz9:=J1)
      refine(fH b [fQ] .none _ _ (by first|exact(aP _ 1 _ [fQ] _ (by first|rfl|simp) rfl rfl (by simp))|exact((aP _ 1 _ [fQ] _ (by first|rfl|simp) rfl rfl (by simp)).alloc _)|exact((aP _ 1 _ [fQ] _ (by first|rfl|simp) rfl rfl (by simp)).drewN 1)|exact(((aP _ 1 _ [fQ] _ (by first|rfl|simp) rfl rfl (by simp)).alloc _).drewN 1)|exact(((aP _ 1 _ [fQ] _ (by first|rfl|simp) rfl rfl (by simp)).drewN 1).alloc _))).mono ?_
      rintro e w4 ⟨f1,rfl,hj1,hk1⟩
      have J1:=Lib.hid hj1
      have K4:Hid (Keeps Non w3 w4):=Keeps.tn (by repeat (first|exact Keeps.refl _ _|apply Keeps.alloc|apply Keeps.drew)) hk1)
    |(go_at_call 45
      refine(lZ H5.out [(.word [fQ] .none,f1),(fC,f2)] 2 _ _ rfl rfl rfl (by omega) (by intro t ht;simp only[List.mem_cons,List.not_mem_nil,or_false] at ht;rcases ht with rfl|rfl;exact WH.out;exact J2.out) (by omega)).mono ?_
      rintro e w6 ⟨rfl,h6,k6⟩)
    |(go_at_call 46
      refine(fH b [iO,jf] .more _ _ (by first|exact(aP _ 2 _ [iO,jf] _ (by first|rfl|simp) rfl rfl (by simp))|exact((aP _ 2 _ [iO,jf] _ (by first|rfl|simp) rfl rfl (by simp)).alloc _)|exact((aP _ 2 _ [iO,jf] _ (by first|rfl|simp) rfl rfl (by simp)).drewN 1)|exact(((aP _ 2 _ [iO,jf] _ (by first|rfl|simp) rfl rfl (by simp)).alloc _).drewN 1)|exact(((aP _ 2 _ [iO,jf] _ (by first|rfl|simp) rfl rfl (by simp)).drewN 1).alloc _)|exact Sl.non (aP _ 2 _ [iO,jf] _ (by first|rfl|simp) rfl rfl (by simp)) hk1|exact Sl.non ((aP _ 2 _ [iO,jf] _ (by first|rfl|simp) rfl rfl (by simp)).alloc _) hk1|exact Sl.non ((aP _ 2 _ [iO,jf] _ (by first|rfl|simp) rfl rfl (by simp)).drewN 1) hk1|exact Sl.non (((aP _ 2 _ [iO,jf] _ (by first|rfl|simp) rfl rfl (by simp)).alloc _).drewN 1) hk1|exact Sl.non (((aP _ 2 _ [iO,jf] _ (by first|rfl|simp) rfl rfl (by simp)).drewN 1).alloc _) hk1|exact(Sl.non (aP _ 2 _ [iO,jf] _ (by first|rfl|simp) rfl rfl (by simp)) hk1).drewN 1|exact(Sl.non ((aP _ 2 _ [iO,jf] _ (by first|rfl|simp) rfl rfl (by simp)).alloc _) hk1).drewN 1|exact(Sl.non ((aP _ 2 _ [iO,jf] _ (by first|rfl|simp) rfl rfl (by simp)).drewN 1) hk1).drewN 1|exact(Sl.non (((aP _ 2 _ [iO,jf] _ (by first|rfl|simp) rfl rfl (by simp)).alloc _).drewN 1) hk1).drewN 1|exact(Sl.non (((aP _ 2 _ [iO,jf] _ (by first|rfl|simp) rfl rfl (by simp)).drewN 1).alloc _) hk1).drewN 1)).mono ?_
      rintro e w5 ⟨f2,rfl,hj2,hk2⟩
      have WY:Keeps Non w4 w5:=Keeps.tn (by repeat (first|exact Keeps.refl _ _|apply Keeps.alloc|apply Keeps.drew)) hk2
      have J2:=Lib.hid hj2
      have WH:=Lib.hid (J1.out.keeps WY)
      have K5:=Lib.hid (K4.out.tn WY)
      have H5:=Lib.hid (H3.out.keeps K5.out)))
   all_goals (
    go_wp2_with fail
    go_meet
    exact⟨[(fC,f2),(.word [fQ] .none,f1)],rfl,rfl,h6,((C3.out.non K5.out).kp k6 (by decide) (by decide)),(K3.out.gg K5.out.ge).gg k6.ge⟩)
  case rest=>
   obtain⟨us,HUS,QG,H4,C4,K4⟩:=hcut
   generalize wc=w4 at *
   go_wp2_with fail
   refine(WX H4.out (by rw[List.length_append,QG];omega)).mono ?_
   rintro e w5 ⟨rfl,⟨us2,ad5,h5⟩,k5⟩
   have HU2:=Lib.hid ad5
   have H5:=Lib.hid h5
   have C5:=Lib.hid (C4.out.kp k5 (by decide) (by decide))
   have K5:=Lib.hid (K4.out.gg k5.ge)
   clear ad5 h5 k5
   go_wp2_with fail
   go_end0
   refine⟨rfl,⟨us++us2,_,?_,?_,C5.out,pK.of_nil C5.out rfl _ (fun t ht e=>?_)⟩,K5.out⟩
   ·rw[List.map_append,List.reverse_append,HU2.out,HUS.out]
    rfl
   ·have h6:=H5.out
    rw[List.append_assoc] at h6
    rw[←rD.out] at h6
    exact h6.upx (σ.x.start nm)
   ·rcases List.mem_append.1 ht with ht|ht
    ·exact HTS.out t ht e
    ·have h1:t.1∈((us++us2).map Prod.fst).reverse:=List.mem_reverse.2 (List.mem_map.2 ⟨t,ht,rfl⟩)
     rw[List.map_append,List.reverse_append,HU2.out,HUS.out,e] at h1
     exact absurd h1 (by decide)
structure CRd(w:World)(b:Nat)(x:CX)(s sm mb:Nat)(L M:bY)(vo:Value)(ra:Option Addr)(rc:Nat):Prop where
 c8:w.cell? ⟨b,8,none⟩=some (pv s)
 c9:w.cell? ⟨b,9,none⟩=some (.map (some mb))
 c10:w.cell? ⟨b,10,none⟩=some vo
 c11:w.cell? ⟨b,11,none⟩=some (sv x.name)
 c12:w.cell? ⟨b,12,none⟩=some (.slice ra x.refs.length rc)
 cs:w.cell? ⟨s,0,none⟩=some (.map (some sm))
 sm:MapAt w sm L
 mm:MapAt w mb M
 abm:∀k,aA x.has k=none→getM L k=none
 ad6:∀k e,aA x.has k=some e→∃p,getM L k=some (pv p)
 ad7:∀k,aA x.came k=none→getM M k=none
 ad8:∀k e,aA x.came k=some e→∃p,getM M k=some (pv p)
 len:L.length=x.has.length
theorem vG.rd{B b:Nat}{tail:PT}{ts:List (Job×Value)}{σ:aT}{w:World}{F:Nat→Prop}{s:Nat}{x:CX}(h:PA B b tail ts σ w)(hc:vG w B tail x F s):
 ∃sm mb L M vo ra rc,CRd w b x s sm mb L M vo ra rc∧CB w B tail x mb vo (.slice ra x.refs.length rc) M∧tail.cells=[pv s,.map (some mb),vo,sv x.name,.slice ra x.refs.length rc]∧x.refs.length≤rc∧rc≤maxLen:=by
 obtain⟨mb,vo,vr,m,hcells,hmem⟩:=hc.mem
 obtain⟨ur,ut,ul,ua,hpa⟩:=h
 obtain⟨sm,L,h1,h2,h3,h4,h5,h6⟩:=hc.st.map
 obtain⟨ra,rc,rfl,hr1,hr2⟩:=hmem.refs.shape
 have c8:=(iF hpa 0).1
 have c9:=(iF hpa 1).1
 have c10:=(iF hpa 2).1
 have c11:=(iF hpa 3).1
 have c12:=(iF hpa 4).1
 rw[hcells] at c8 c9 c10 c11 c12
 refine⟨sm,mb,L,m,vo,ra,rc,⟨c8,c9,c10,c11,c12,h2.cell 0,h3,hmem.map,fun k hk=>?_,fun k e hk=>?_,fun k hk=>?_,fun k e hk=>?_,h4⟩,hmem,hcells,hr1,hr2⟩
 ·rcases aU.look h3 h5 h6 k with⟨-,g⟩|⟨e,p,g,-⟩
  ·exact g
  ·rw[hk] at g;cases g
 ·rcases aU.look h3 h5 h6 k with⟨g,-⟩|⟨e',p,g,-,-,g2,-⟩
  ·rw[hk] at g;cases g
  ·exact⟨p,g2⟩
 ·rcases hmem.look k with⟨-,g⟩|⟨e,p,g,-⟩
  ·exact g
  ·rw[hk] at g;cases g
 ·rcases hmem.look k with⟨g,-⟩|⟨e',p,g,-,-,g2⟩
  ·rw[hk] at g;cases g
  ·exact⟨p,g2⟩
theorem WZ{x:CX}{nm:List UInt8}(h:iZ x.refs nm=false):eY x nm=7:=by unfold eY;rw[h];rfl
theorem Fg{x:CX}{nm:List UInt8}(h:iZ x.refs nm=true)(h2:nm=x.name∨(∃e,aA x.has nm=some e)∨∃e,aA x.came nm=some e):eY x nm=0:=by
 unfold eY
 rw[h,if_neg (by simp),if_neg]
 rintro ⟨h3,h4,h5⟩
 rcases h2 with h2|⟨e,h2⟩|⟨e,h2⟩
 ·exact h3 h2
 ·rw[h2] at h4;cases h4
 ·rw[h2] at h5;cases h5
theorem W9{x:CX}{nm:List UInt8}(h:iZ x.refs nm=true)(h1:nm≠x.name)(h2:aA x.has nm=none)(h3:aA x.came nm=none):eY x nm=13:=by
 unfold eY
 rw[h,if_neg (by simp),if_pos ⟨h1,h2,h3⟩]
theorem wK:(Tryz.prog.info? 9).map (fun i=>(i.zero,i.size,i.bytes))=some (some (.string ⟨#[]⟩),1,16):=by kernel_rfl
theorem Xa{B b:Nat}{tail:PT}{ts:List (Job×Value)}{σ:aT}{w:World}{F:Nat→Prop}{s:Nat}(h:PA B b tail ts σ w)(hc:vG w B tail σ.x F s)(nm:List UInt8)(hn:nm.length≤1000)(p:Int)
 (hrl:σ.x.refs.length≤549755813888) (hrs:∀r∈σ.x.refs,r.length≤549755813888) (hnn:σ.x.name.length≤549755813888) (hts:∀t∈ts,t.1=fC) (EP:pK w tail.cells ts):
 Calls Tryz.prog 129 #[.pointer (some ⟨b,0,none⟩),sv nm,.int .i64 p] w (Fe B b ts (aN .oP nm p σ) F s w):=by
 obtain⟨sm,mb,L,M,vo,ra,rc,hrd,hmem,hcells,hr1,hr2⟩:=hc.rd h
 have H0:=Lib.hid h
 have C0:=Lib.hid hc
 have RD:=Lib.hid hrd
 have HM:=Lib.hid hmem
 have Gy:=Lib.hid hcells
 have HTS:=Lib.hid hts
 have Jw:=Lib.hid EP
 have yc:Hid (Tryz.prog.underlying 82=some (.map 9 81)):=Tryz.underlying82
 unfold maxLen at hr2
 have c8:=hrd.c8
 have c9:=hrd.c9
 have c11:=hrd.c11
 have c12:=hrd.c12
 have cs:=hrd.cs
 have hns:nm.length≤1099511627776:=by omega
 clear h hc hrd hmem hcells hrs hnn hts EP
 unfold sv pv at *
 go_enter Tryz.func129,Tryz.ntmps129
 go_upto_block 0 with(fail)
 go_cut [] (fun wx=>Hid (PA B b tail ts (σ.aO (eY σ.x nm) p) wx)∧Hid (vG wx B tail σ.x F s)∧Hid (Keeps (GE B) w wx)∧Hid (pK wx tail.cells ts))
 case first=>
  go_upto_region 1 with(fail)
  go_cut [12] (fun hv wx=>hv=.bool (!iZ σ.x.refs nm)∧w=wx)
  case first=>
   rcases List.eq_nil_or_concat σ.x.refs with hnil|⟨l,t,hcon⟩
   ·have HR:Hid (iZ σ.x.refs nm=true):=by show _=_;rw[hnil];rfl
    have hl0:σ.x.refs.length=0:=by rw[hnil];rfl
    have e4:decide ((0:Int)<(σ.x.refs.length:Int))=false:=decide_eq_false (by omega)
    have e5:decide (0<σ.x.refs.length)=false:=decide_eq_false (by omega)
    clear hnil hl0
    go_wp2_with fail
    go_meet
    rw[HR.out]
    exact⟨rfl,rfl⟩
   ·rw[List.concat_eq_append] at hcon
    have hl1:σ.x.refs.length=l.length+1:=by rw[hcon];simp
    have HR:Hid (iZ σ.x.refs nm=Op.bytesLess t nm):=by show _=_;rw[hcon];simp[iZ]
    have hsl:=HM.out.refs
    rw[hl1] at hsl
    obtain⟨rb,ro,cap,hsh,-,-,-,hbl,hcc,-⟩:=hsl.pos (by omega)
    cases hsh
    have d1:w.cell? ⟨rb,ro+l.length,none⟩=some (sv t):=by
     rw[hcc l.length (by omega),hcon]
     simp[bf]
    obtain⟨m,hm⟩:∃m,l.length=m:=⟨_,rfl⟩
    rw[hm] at d1 hl1
    have e1:IntKind.i64.wrap ((σ.x.refs.length:Int)-1)=(m:Int):=by rw[IntWalk.i64_in _ (by omega)];omega
    have e2:(0:Int)≤(m:Int):=by omega
    have e3:(m:Int)<(σ.x.refs.length:Int):=by omega
    have e4:decide ((0:Int)<(σ.x.refs.length:Int))=true:=decide_eq_true (by omega)
    have e5:decide (0<σ.x.refs.length)=true:=decide_eq_true (by omega)
    have e6:m<σ.x.refs.length:=by omega
    unfold sv at d1
    clear hsl hcc hcon hl1 hm
    cases hl:Op.bytesLess t nm with
    |true=>
     have hl2:(!Op.bytesLess t nm)=false:=by rw[hl];rfl
     go_wp2_with fail
     go_meet
     rw[HR.out,hl]
     exact⟨rfl,rfl⟩
    |false=>
     have hl2:(!Op.bytesLess t nm)=true:=by rw[hl];rfl
     go_wp2_with fail
     go_meet
     rw[HR.out,hl]
     exact⟨rfl,rfl⟩
  case rest=>
   obtain⟨rfl,rfl⟩:=hcut
   cases hris:iZ σ.x.refs nm with
   |false=>
    have HE:Hid (eY σ.x nm=7):=WZ hris
    clear hris
    go_wp2_with fail
    refine(kH H0.out 7 p).mono ?_
    rintro e w2 ⟨rfl,h2,k2⟩
    have H2:=Lib.hid h2
    have C2:=Lib.hid (C0.out.kp k2 (by decide) (by decide))
    have K2:Hid (Keeps (GE B) w w2):=k2.ge
    have HF2:=Lib.hid (Jw.out.kp H0.out k2 (by decide))
    clear h2 k2
    go_wp2_with fail
    go_meet
    rw[HE.out]
    exact⟨H2,C2,K2,HF2⟩
   |true=>
    have HRI:=Lib.hid hris
    clear hris
    by_cases hnm:nm=σ.x.name
    ·have HE:Hid (eY σ.x nm=0):=Fg HRI.out (.inl hnm)
     have hb:(nm==σ.x.name)=true:=by rw[hnm];exact beq_self_eq_true _
     have hb2:(nm !=σ.x.name)=false:=by unfold bne;rw[hb];rfl
     clear hnm
     go_wp2_with fail
     go_meet
     rw[HE.out]
     exact⟨H0,C0,Keeps.refl _ _,Jw⟩
    ·have hb:(nm==σ.x.name)=false:=by rw[beq_eq_false_iff_ne];exact hnm
     have hb2:(nm !=σ.x.name)=true:=by unfold bne;rw[hb];rfl
     have UO:Hid (¬nm=σ.x.name):=hnm
     clear hnm
     cases hfh:aA σ.x.has nm with
     |some e=>
      obtain⟨q,hg⟩:=RD.out.ad6 nm e hfh
      have iG:Hid ((getM L nm).getD (.pointer none)=.pointer (some ⟨q,0,none⟩)):=by show _=_;rw[hg];rfl
      have HE:Hid (eY σ.x nm=0):=Fg HRI.out (.inr (.inl ⟨e,hfh⟩))
      clear hfh hg
      go_wp2_with (first|(at_lookup;refine oM _ rfl _ _ _ rfl _ _ yc.out Tryz.underlying9 (.pointer none) (Tryz.zeroValue81 _) sm L rfl RD.out.sm nm rfl hns ?_;rw[iG.out]))
      go_meet
      rw[HE.out]
      exact⟨H0,C0,Keeps.refl _ _,Jw⟩
     |none=>
      have hg:=RD.out.abm nm hfh
      have iG:Hid ((getM L nm).getD (.pointer none)=.pointer none):=by show _=_;rw[hg];rfl
      have HFH:=Lib.hid hfh
      clear hfh hg
      cases hfc:aA σ.x.came nm with
      |some e=>
       obtain⟨q,hg⟩:=RD.out.ad8 nm e hfc
       have G9:Hid ((getM M nm).getD (.pointer none)=.pointer (some ⟨q,0,none⟩)):=by show _=_;rw[hg];rfl
       have HE:Hid (eY σ.x nm=0):=Fg HRI.out (.inr (.inr ⟨e,hfc⟩))
       clear hfc hg
       go_wp2_with (first|(at_lookup;refine oM _ rfl _ _ _ rfl _ _ yc.out Tryz.underlying9 (.pointer none) (Tryz.zeroValue81 _) sm L rfl RD.out.sm nm rfl hns ?_;rw[iG.out])|(at_lookup;refine oM _ rfl _ _ _ rfl _ _ yc.out Tryz.underlying9 (.pointer none) (Tryz.zeroValue81 _) mb M rfl RD.out.mm nm rfl hns ?_;rw[G9.out]))
       go_meet
       rw[HE.out]
       exact⟨H0,C0,Keeps.refl _ _,Jw⟩
      |none=>
       have hg:=RD.out.ad7 nm hfc
       have G9:Hid ((getM M nm).getD (.pointer none)=.pointer none):=by show _=_;rw[hg];rfl
       have HE:Hid (eY σ.x nm=13):=W9 HRI.out UO.out HFH.out hfc
       clear hfc hg
       go_wp2_with (first|(at_lookup;refine oM _ rfl _ _ _ rfl _ _ yc.out Tryz.underlying9 (.pointer none) (Tryz.zeroValue81 _) sm L rfl RD.out.sm nm rfl hns ?_;rw[iG.out])|(at_lookup;refine oM _ rfl _ _ _ rfl _ _ yc.out Tryz.underlying9 (.pointer none) (Tryz.zeroValue81 _) mb M rfl RD.out.mm nm rfl hns ?_;rw[G9.out]))
       refine(kH H0.out 13 p).mono ?_
       rintro e w2 ⟨rfl,h2,k2⟩
       have H2:=Lib.hid h2
       have C2:=Lib.hid (C0.out.kp k2 (by decide) (by decide))
       have K2:Hid (Keeps (GE B) w w2):=k2.ge
       have HF2:=Lib.hid (Jw.out.kp H0.out k2 (by decide))
       clear h2 k2
       go_wp2_with fail
       go_meet
       rw[HE.out]
       exact⟨H2,C2,K2,HF2⟩
 case rest=>
  obtain⟨H2,C2,K2,HF2⟩:=hcut
  generalize wc=w2 at *
  clear c8 c9 c11 c12 cs RD HM Gy hr1 hr2 Jw
  obtain⟨σ2,hσ2⟩:∃σ2,σ.aO (eY σ.x nm) p=σ2:=⟨_,rfl⟩
  rw[hσ2] at H2
  have rD:=Lib.hid hσ2
  obtain⟨mb,vo,vr,m,hcells,hmem⟩:=C2.out.mem
  obtain⟨ra,rc,rfl,hr1,hr2⟩:=hmem.refs.shape
  have yQ:=Lib.hid hmem
  have Gy:=Lib.hid hcells
  obtain⟨ur,ut,ul,ua,hpa⟩:=H2.out
  have c12:=(iF hpa 4).1
  rw[hcells] at c12
  simp only[List.getElem?_cons_zero,List.getElem?_cons_succ,Nat.reduceAdd] at c12
  have HP2:=Lib.hid hpa
  have hsl:=hmem.refs
  have hbs:=hpa.blk.lt
  have hlb:=hpa.le
  unfold maxLen at hr2
  clear hσ2 hcells hmem hpa
  obtain⟨i0,hi,hi0,hi1,hi2⟩:=info_parts wK
  go_wp2_with (at_builtin;refine mW rfl _ _ 26 26 rfl 9 i0 _ 1 16 Tryz.underlying26 hi hi0 hi1 hi2 rfl B _ _ _ rfl _ rfl 1 [.string ⟨nm.toArray⟩] ?d11 (hsl.alloc _) ?d12 ?d13 ?Gg ?_)
  case d11=>simp;omega
  case d12=>exact Src.kP Tryz.underlying26 (Sl.dM w2 0 (Nat.zero_le _) 9 1 1 [.string ⟨nm.toArray⟩] rfl (by simp[maxLen])) (by intro u hu;simp only[List.mem_cons,List.not_mem_nil,or_false] at hu;rcases hu with rfl;rfl)
  case d13=>unfold maxLen;omega
  case Gg=>omega
  intro ao cc w3 hs3 hk3 jY hb3 Ze
  have nY:Kp B [Cm] w2 w3:=((Kp.refl _ _ _).alloc _).trans hk3
  have ha2:Keeps Non w2 (w2.alloc (.cells #[.string ⟨nm.toArray⟩] 9)):=(Keeps.refl _ _).alloc _
  have Fh:=HP2.out.keeps ha2
  have hsz2:(w2.alloc (.cells #[.string ⟨nm.toArray⟩] 9)).heap.size=w2.heap.size+1:=by simp
  have Xb:pK (w2.alloc (.cells #[.string ⟨nm.toArray⟩] 9)) tail.cells ts:=HF2.out.kp H2.out (Kp.aI (B:=B) (Ts:=[]) ha2) (by simp)
  have rW:=yQ.out.kp (Kp.aI (B:=B) (Ts:=[]) ha2) (by simp) (by simp)
  have hv4:tail.cells[4]? =some (.slice ra σ.x.refs.length rc):=by rw[Gy.out];rfl
  have Xc:pq B b tail ts σ2 w3 ur ut ul ua:=by
   refine⟨Fh.blk.kp hk3 (.inr (by decide)),Fh.le,Fh.rest.kp hk3 (.inl (by decide)),Fh.todo.kp hk3 (.inl (by decide)),Fh.nodes.kp hk3 (.inl (by decide)),Fh.above.kp hk3 (.inl (by decide)),fun t ht=>?_,fun t ht=>⟨(Fh.kept t ht).1.kp hk3 (.inl (by decide)),(Fh.kept t ht).2⟩⟩
   have hj:=Fh.jobs t ht
   have he:=HTS.out t ht
   have hf:=(Xb _).1 hv4 t ht he
   rw[he] at hj ⊢
   obtain⟨bm,bp,bt,vm,hfe,g1,g2,g3,g4⟩:=hj
   exact⟨bm,bp,bt,vm,hfe,g1.kp hk3 (.inr (by decide)),(Ze 0 vm _ _ g2 (hf _ _ _ _ hfe g1)).1,g3.kp hk3 (.inr (by decide)),g4.kp hk3 (.inr (by decide))⟩
  have hst:=xH Xc 4 (.slice ao (σ.x.refs.length+1) cc)
  have Xd:=(iF Xc 4).1
  rw[Gy.out] at Xd
  have hfr3:=(iF Xc 4).2
  simp only[List.getElem?_cons_zero,List.getElem?_cons_succ,Nat.reduceAdd] at Xd hfr3
  have hbef:∀k,vo.ownBlock=some k→k<(w2.alloc (.cells #[.string ⟨nm.toArray⟩] 9)).heap.size:=fun k hk=>rW.order.pR hk
  have ad9:vG (w3.setCell ⟨b,4+8,none⟩ (.slice ao (σ.x.refs.length+1) cc)) B ⟨tail.cells.set 4 (.slice ao (σ.x.refs.length+1) cc),tail.trees⟩ {σ.x with refs:=σ.x.refs++[nm]} F s:=by
   have Qr:Keeps (GE B) w2 (w3.setCell ⟨b,4+8,none⟩ (.slice ao (σ.x.refs.length+1) cc)):=nY.ge.gg hst.2.ge
   refine⟨C2.out.st.keeps Qr fun k hk hB=>by have:=C2.out.low k hk;have:B≤k:=hB;omega,C2.out.low,mb,vo,.slice ao (σ.x.refs.length+1) cc,m,by rw[Gy.out];rfl,?_⟩
   refine⟨rW.le,(rW.map.kp hk3).kp hst.2,rW.keys,fun e he=>?_,?_,?_,fun k hk=>?_,fun h=>by simp at h⟩
   ·obtain⟨p',hp',hq⟩:=rW.ents e he
    obtain⟨vt,uu,r1,r2,r3,r4,r5⟩:=hq.blk
    have h1:=Ze B uu _ _ r3 r4
    exact⟨p',hp',hq.le,vt,uu,(r1.kp hk3 (.inr (by decide))).kp hst.2 (.inr (by decide)),r2,h1.1.kp hst.2 (.inl (by decide)),h1.2,r5⟩
   ·exact(rW.order.keep fun bb c hbb _ hblk=>hblk.keeps jY (fun e=>rW.apart bb e hbb)).kp hst.2 (.inl (by decide))
   ·have h1:=hs3.kp hst.2 (.inl (by decide))
    show Sl _ B Cm 1 _ (σ.x.refs++[nm]).length (bf (σ.x.refs++[nm]))
    rw[List.length_append,List.length_singleton]
    have e1:bf (σ.x.refs++[nm])=bf σ.x.refs++[.string ⟨nm.toArray⟩]:=by simp[bf,sv]
    rw[e1]
    exact h1
   ·rcases hb3 with e|e
    ·exact rW.apart k (e.symm.trans hk)
    ·intro e2
     have e3:=hbef k e2
     have e4:=e.symm.trans hk
     cases e4
     omega
  have hfm:pK (w3.setCell ⟨b,4+8,none⟩ (.slice ao (σ.x.refs.length+1) cc)) (tail.cells.set 4 (.slice ao (σ.x.refs.length+1) cc)) ts:=by
   refine fun v=>⟨fun hv t ht he=>?_,fun hv t ht he=>absurd (he.symm.trans (HTS.out t ht)) (by decide)⟩
   have hve:v=.slice ao (σ.x.refs.length+1) cc:=by
    rw[Gy.out] at hv
    simpa using hv.symm
   subst hve
   have hj:=Fh.jobs t ht
   have hf:=(Xb _).1 hv4 t ht he
   have hj3:=Xc.jobs t ht
   rw[he] at hj hj3
   refine nZ.kpN hj3 ?_ hst.2 (by decide)
   obtain⟨Zc,bp0,bt0,Zd,hf0,hb0,hs0,-⟩:=hj
   intro bm bp bt vm hfv hbv
   rw[hf0] at hfv
   have e1:Zc=bm:=by simp at hfv;exact hfv.1
   subst e1
   have h2:=(hb0.kp hk3 (.inr (by decide))).inj hbv
   have e2:vm=Zd:=by simpa using h2.1.symm
   subst e2
   exact(Ze 0 vm _ _ hs0 (hf _ _ _ _ hf0 hb0)).2
  have U9:=Lib.hid hst.1
  have Yd:=Lib.hid ad9
  have Wn:=Lib.hid hfm
  have HKF:Hid (Keeps (GE B) w (w3.setCell ⟨b,4+8,none⟩ (.slice ao (σ.x.refs.length+1) cc))):=(K2.out.gg nY.ge).gg hst.2.ge
  clear hst ad9 hfm hs3 hk3 jY hb3 Ze nY ha2 Fh Xb rW hv4 Xc hbef hi hi0 hi1 hi2 c12 hsl hsz2 H2 C2 K2 HF2
  go_wp2_with fail
  go_end0
  refine⟨rfl,⟨[],_,rfl,?_,Yd.out,?_⟩,HKF.out⟩
  ·rw[List.append_nil]
   have h6:PA B b ⟨tail.cells.set 4 (.slice ao (σ.x.refs.length+1) cc),tail.trees⟩ ts σ2 (w3.setCell ⟨b,4+8,none⟩ (.slice ao (σ.x.refs.length+1) cc)):=⟨_,_,_,_,U9.out⟩
   rw[←rD.out] at h6
   exact h6.upx _
  ·rw[List.append_nil]
   exact Wn.out
end Go.Proofs.YtdkogijdfgfpeaaGreatDoor

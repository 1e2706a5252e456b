/- (*store.coming).sum: an entry has come whole. -/
import Derived.Test.YtdkogijdfgfpeaaGreatDoorZITree
import Derived.Test.YtdkogijdfgfpeaaGreatDoorZPName
import Derived.Test.YtdkogijdfgfpeaaGreatDoorZLState
import Derived.Test.YtdkogijdfgfpeaaGreatDoorZPack
import Derived.Test.YtdkogijdfgfpeaaGreatDoorZGet
import Derived.Test.YtdkogijdfgfpeaaGreatDoorZClosP
set_option linter.unusedVariables false
set_option maxHeartbeats 6400000
set_option maxRecDepth 100000
namespace Go.Proofs.YtdkogijdfgfpeaaGreatDoor
open Go Go.RowKit Go.MapKept Go.ChangeShapes Go.WideShapes Go.ChangeMaps
theorem MapAt.get_inj{w:World}{b:Nat}{m m':bY}(h:MapAt w b m)(h':MapAt w b m')(k:List UInt8):getM m k=getM m' k:=by
 obtain⟨es,c,hb,hm⟩:=h
 obtain⟨es',c',hb',hm'⟩:=h'
 rw[hb] at hb'
 cases hb'
 have e1:∀(x:List UInt8×Value),x∈m→x∈m':=fun x hx=>by
  obtain⟨e,he,h1,h2⟩:=hm.ent hx
  obtain⟨y,hy,g1,g2⟩:=hm'.key he
  have e3:x=y:=by
   have:=X4 (h1.symm.trans g1)
   exact Prod.ext this (h2.symm.trans g2)
  rw[e3];exact hy
 have e2:∀(x:List UInt8×Value),x∈m'→x∈m:=fun x hx=>by
  obtain⟨e,he,h1,h2⟩:=hm'.ent hx
  obtain⟨y,hy,g1,g2⟩:=hm.key he
  have e3:x=y:=by
   have:=X4 (h1.symm.trans g1)
   exact Prod.ext this (h2.symm.trans g2)
  rw[e3];exact hy
 cases hg:getM m k with
 |none=>
  symm
  rw[getM_none] at hg ⊢
  exact fun x hx=>hg x (e2 x hx)
 |some v=>exact((jE hm'.keys).2 (e1 _ ((jE hm.keys).1 hg))).symm
theorem vG.rd2{B b:Nat}{tail:PT}{ts:List (Job×Value)}{σ:aT}{w:World}{F:Nat→Prop}{s:Nat}{x:CX}(h:PA B b tail ts σ w)(hc:vG w B tail x F s){mb:Nat}{vo:Value}{ra:Option Addr}{rc:Nat}
 (he:tail.cells=[pv s,.map (some mb),vo,sv x.name,.slice ra x.refs.length rc]):∃sm L M,CRd w b x s sm mb L M vo ra rc∧CB w B tail x mb vo (.slice ra x.refs.length rc) M:=by
 obtain⟨sm,mb',L,M,vo',ra',rc',h1,h2,h3,-⟩:=hc.rd h
 rw[he] at h3
 simp only[List.cons.injEq,Value.map.injEq,Option.some.injEq,Value.slice.injEq,true_and,and_true] at h3
 obtain⟨rfl,rfl,rfl,rfl⟩:=h3
 exact⟨sm,L,M,h1,h2⟩
def QI(w:World)(F:Nat→Prop)(x:CX)(ov:Value):Prop:=(aA x.has x.name=none∧ov=.pointer none)∨∃e q,aA x.has x.name=some e∧ov=.pointer (some ⟨q,0,none⟩)∧lq w F q e
theorem QI.ge{w w':World}{F:Nat→Prop}{x:CX}{ov:Value}{B:Nat}(h:QI w F x ov)(k:Keeps (GE B) w w')(hl:∀j,F j→j<B):QI w' F x ov:=by
 rcases h with h|⟨e,q,h1,h2,h3⟩
 ·exact .inl h
 ·exact .inr ⟨e,q,h1,h2,h3.keeps k fun b _ _ _ hb _ hg=>by have:=hl b hb;have:B≤b:=hg;omega⟩
theorem Fj{fr:List UInt8→Bool}:∀{todo:List (List UInt8)} {k:List UInt8},todo.Nodup→k∈todo→todo.countP fr=(todo.filter fun x=>x !=k).countP fr+(if fr k then 1 else 0)
 | [],_,_,h=>by cases h
 |a :: r,k,hn,hk=>by
  obtain⟨h1,h2⟩:=List.nodup_cons.1 hn
  by_cases e:a=k
  ·subst e
   have hf:(r.filter fun x=>x !=a)=r:=List.filter_eq_self.2 fun x hx=>by simpa using fun e2:x=a=>h1 (e2 ▸ hx)
   rw[List.filter_cons_of_neg (by simp),hf,List.countP_cons]
  ·have hkr:k∈r:=by
    rcases List.mem_cons.1 hk with e2|e2
    ·exact absurd e2.symm e
    ·exact e2
   rw[List.filter_cons_of_pos (by simpa using e),List.countP_cons,List.countP_cons,Fj h2 hkr]
   omega
theorem Na{x:CX}{M:bY}(h:(M.map Prod.fst).Perm (x.came.map dI.path)):(M.map Prod.fst).countP (fun p=>(aA x.has p).isNone)=jZ x:=by
 rw[h.countP_eq,List.countP_map]
 rfl
theorem Sl.lJ{w w':World}{B:Nat}{E:TypeId}{size:Nat}{v:Value}{n:Nat}{xs:List Value}(h:Sl w B E size v n xs)(hn:∀b c T,aS w b c T→aS w' b c T):Sl w' B E size v n xs:=h.keep fun b c _ _ hb=>hn b c _ hb
theorem dD.lJ{w w':World}{b:Nat}{j:Job}{f:Value}(h:dD w b j f)(hn:∀b c T,aS w b c T→aS w' b c T):dD w' b j f:=by
 cases j with
 |word may act=>
  obtain⟨bm,bp,bt,vm,rfl,h1,h2,h3,h4⟩:=h
  exact⟨bm,bp,bt,vm,rfl,hn _ _ _ h1,h2.lJ hn,hn _ _ _ h3,hn _ _ _ h4⟩
 |leads=>exact h
 |name=>exact h
 |keep k'=>
  obtain⟨bp,bk,rfl,h1,h2⟩:=h
  exact⟨bp,bk,rfl,hn _ _ _ h1,hn _ _ _ h2⟩
 |jB=>exact h
 |oP=>exact h
 |oC=>exact h
theorem pq.lJ{B b:Nat}{tail:PT}{ts:List (Job×Value)}{σ:aT}{w w':World}{vr vt vl va:Value}(h:pq B b tail ts σ w vr vt vl va)(hn:∀b c T,aS w b c T→aS w' b c T):pq B b tail ts σ w' vr vt vl va:=
 ⟨hn _ _ _ h.blk,h.le,h.rest.lJ hn,h.todo.lJ hn,h.nodes.lJ hn,h.above.lJ hn,fun t ht=>(h.jobs t ht).lJ hn,fun t ht=>⟨(h.kept t ht).1.lJ hn,(h.kept t ht).2⟩⟩
theorem nZ.lJ{w w':World}{b:Nat}{v f:Value}{may:List (List UInt8)}{act:vw}(hj:dD w b (.word may act) f)(h:nZ w v f)(hn:∀b c T,aS w b c T→aS w' b c T):nZ w' v f:=by
 intro bm bp bt vm hfv hbv
 obtain⟨Zc,bp0,bt0,Zd,hf0,hb0,-⟩:=hj
 rw[hf0] at hfv
 have e1:Zc=bm:=by simp at hfv;exact hfv.1
 subst e1
 have h2:=(hn _ _ _ hb0).inj hbv
 have e2:vm=Zd:=by simpa using h2.1.symm
 subst e2
 exact h _ _ _ _ hf0 hb0
theorem Xe{M:bY}{came:aH}{e:dI}{v:Value}(hk:(M.map Prod.fst).Perm (came.map dI.path))(ho:came.Pairwise fun a b=>a.path≠b.path):((jJ M e.path v).map Prod.fst).Perm ((tu came e).map dI.path):=by
 unfold tu
 rw[List.map_append]
 show List.Perm _ (_++[e.path])
 by_cases hin:e.path∈M.map Prod.fst
 ·rw[GZ v hin]
  refine hk.trans ?_
  have hin2:e.path∈came.map dI.path:=hk.mem_iff.1 hin
  have hnd:(came.map dI.path).Nodup:=List.pairwise_map.2 ho
  have h1:=List.Nodup.erase_eq_filter hnd e.path
  have h2:(came.filter fun o=>o.path !=e.path).map dI.path=(came.map dI.path).erase e.path:=by
   rw[h1,List.filter_map]
   rfl
  rw[h2]
  exact(List.perm_cons_erase hin2).trans (List.perm_append_comm (l₁:=[e.path]))
 ·have hg:getM M e.path=none:=getM_none.2 fun x hx e2=>hin (List.mem_map.2 ⟨x,hx,e2⟩)
  have hp:jJ M e.path v=M++[(e.path,v)]:=by rw[jJ,hg];rfl
  have hf:came.filter (fun o=>o.path !=e.path)=came:=List.filter_eq_self.2 fun o ho=>by
   have:o.path≠e.path:=fun e2=>hin (hk.mem_iff.2 (List.mem_map.2 ⟨o,ho,e2⟩))
   simpa using this
  rw[hp,hf,List.map_append]
  exact hk.append_right _
theorem Xf{B b:Nat}{tail:PT}{ts:List (Job×Value)}{σ:aT}{x:CX}{w w':World}{F:Nat→Prop}{s mb q rc:Nat}{vr vt vl va vo:Value}{l:List Node}{ra:Option Addr}{M:bY}
 (hp:pq B b tail ts σ w vr vt vl va) (hl:σ.nodes=l) (hc:vG w B tail x F s) (hce:tail.cells=[pv s,.map (some mb),vo,sv x.name,.slice ra x.refs.length rc]) (hm:CB w B tail x mb vo (.slice ra x.refs.length rc) M) (ho:x.came.Pairwise fun a b=>a.path≠b.path)
 (hq:B≤q) (hb:aS w q #[sv (aJ l),vl,.slice ra x.refs.length rc] TE) (hf:pK w tail.cells ts) (hts:∀t∈ts,t.1=gU) (hm':MapAt w' mb (jJ M x.name (pv q))) (hk:Keeps (One mb) w w'):
 pq B b ⟨tail.cells,tail.trees++[(vl,l)]⟩ ts σ w' vr vt vl va∧CB w' B ⟨tail.cells,tail.trees++[(vl,l)]⟩ {x with came:=tu x.came (x.ent l)} mb vo (.slice ra x.refs.length rc) (jJ M x.name (pv q))∧
 vG w' B ⟨tail.cells,tail.trees++[(vl,l)]⟩ {x with came:=tu x.came (x.ent l)} F s∧pK w' tail.cells ts:=by
 have hn:∀b c T,aS w b c T→aS w' b c T:=fun b c T hb=>hb.keeps hk (fun e=>hm.map.eH hb e)
 have hp':=hp.lJ hn
 have hmem:CB w' B ⟨tail.cells,tail.trees++[(vl,l)]⟩ {x with came:=tu x.came (x.ent l)} mb vo (.slice ra x.refs.length rc) (jJ M x.name (pv q)):=by
  refine⟨hm.le,hm',Xe (e:=x.ent l) hm.keys ho,fun e he=>?_,hm.order.lJ hn,hm.refs.lJ hn,hm.apart,hm.nil⟩
  rcases L8.1 he with⟨he,hne⟩|rfl
  ·obtain⟨p,hp,hE⟩:=hm.ents e he
   obtain⟨ut,ur,g1,g2,g3,g4,g5⟩:=hE.blk
   refine⟨p,?_,hE.le,ut,ur,hn _ _ _ g1,List.mem_append.2 (.inl g2),g3.lJ hn,g4,g5⟩
   rw[fG,if_neg (show ¬e.path=x.name from hne)]
   exact hp
  ·refine⟨q,?_,hq,vl,.slice ra x.refs.length rc,hn _ _ _ hb,List.mem_append.2 (.inr (List.mem_singleton.2 rfl)),hm.refs.lJ hn,yI _ _,hm.apart⟩
   rw[fG,if_pos (show(x.ent l).path=x.name from rfl)]
 refine⟨⟨hp'.blk,hp'.le,hp'.rest,hp'.todo,hp'.nodes,hp'.above,hp'.jobs,fun t ht=>?_⟩,hmem,⟨hc.st.keeps hk fun k hF e=>?_,hc.low,mb,vo,_,_,hce,hmem⟩,fun v=>⟨fun hv t ht he=>?_,fun hv t ht he=>?_⟩⟩
 ·rcases List.mem_append.1 ht with ht|ht
  ·exact hp'.kept t ht
  ·obtain rfl:=List.mem_singleton.1 ht
   exact⟨by rw[←hl];exact hp'.nodes,yI _ _⟩
 ·have h1:=hc.low k hF
  have h2:=hm.le
  have:k=mb:=e
  omega
 ·have hj:=hp.jobs t ht
  rw[he] at hj
  exact((hf v).1 hv t ht he).lJ hj hn
 ·have hj:=hp.jobs t ht
  rw[he] at hj
  exact((hf v).2 hv t ht he).lJ hj hn
theorem Xg{B b:Nat}{tail:PT}{ts:List (Job×Value)}{σ:aT}{x:CX}{w wa w7:World}{F:Nat→Prop}{s mb:Nat}{ur ut vl ua vo v' vr:Value}{M:bY}
 (hp:pq B b tail ts σ w ur ut vl ua) (hm:CB w B tail x mb vo vr M) (hc:vG w B tail x F s) (hf:pK w tail.cells ts) (hce:tail.cells=[pv s,.map (some mb),vo,sv x.name,vr]) (hts:∀t∈ts,t.1=gU)
 (hka:Keeps Non w wa) (hs7:Sl w7 B Cm 1 v' (x.order.length+1) (bf x.order++[sv x.name])) (xg:Kp B [Cm] wa w7) (KU:Keeps (jC vo) wa w7) (hb7:v'.ownBlock=vo.ownBlock∨v'.ownBlock=some wa.heap.size)
 (Xh:∀(B':Nat) (t:Value) (k:Nat) (ys:List Value),Sl wa B' Cm 1 t k ys→Ahead 1 vo t→Sl w7 B' Cm 1 t k ys∧Ahead 1 v' t):
 pq B b ⟨tail.cells.set 2 v',tail.trees⟩ ts σ (w7.setCell ⟨b,2+8,none⟩ v') ur ut vl ua∧vG (w7.setCell ⟨b,2+8,none⟩ v') B ⟨tail.cells.set 2 v',tail.trees⟩ {x with order:=x.order++[x.name]} F s∧
 pK (w7.setCell ⟨b,2+8,none⟩ v') (tail.cells.set 2 v') ts∧Keeps (GE B) w (w7.setCell ⟨b,2+8,none⟩ v'):=by
 have hpa:=hp.keeps hka
 have hma:=hm.kp (Kp.aI (B:=B) (Ts:=[]) hka) (by simp) (by simp)
 have hfa:pK wa tail.cells ts:=hf.kp ⟨_,_,_,_,hp⟩ (Kp.aI (B:=B) (Ts:=[]) hka) (by simp)
 have hv2:tail.cells[2]? =some vo:=by rw[hce];rfl
 have Zf:∀t∈ts,dD w7 b t.1 t.2:=fun t ht=>by
  have hj:=hpa.jobs t ht
  have he:=hts t ht
  have hf:=(hfa _).2 hv2 t ht he
  rw[he] at hj ⊢
  obtain⟨bm,bp,bt,vm,hfe,g1,g2,g3,g4⟩:=hj
  exact⟨bm,bp,bt,vm,hfe,g1.kp xg (.inr (by decide)),(Xh 0 vm _ _ g2 (hf _ _ _ _ hfe g1)).1,g3.kp xg (.inr (by decide)),g4.kp xg (.inr (by decide))⟩
 have Qd:pq B b tail ts σ w7 ur ut vl ua:=
  ⟨hpa.blk.kp xg (.inr (by decide)),hpa.le,hpa.rest.kp xg (.inl (by decide)),hpa.todo.kp xg (.inl (by decide)),hpa.nodes.kp xg (.inl (by decide)),hpa.above.kp xg (.inl (by decide)),Zf,fun t ht=>⟨(hpa.kept t ht).1.kp xg (.inl (by decide)),(hpa.kept t ht).2⟩⟩
 have hst:=xH Qd 2 v'
 have Qr:Keeps (GE B) w (w7.setCell ⟨b,2+8,none⟩ v'):=(hka.ge.gg xg.ge).gg hst.2.ge
 have hap:∀(u:Value) (k:Nat) (n:Nat) (ys:List Value) (BB:Nat),Sl wa BB Cm 1 u n ys→(∀k,u.ownBlock=some k→vo.ownBlock≠some k)→u.ownBlock=some k→v'.ownBlock≠some k:=fun u k n ys BB hs ha hk e=>by
  rcases hb7 with e2|e2
  ·exact ha k hk (e2.symm.trans e)
  ·have h1:=hs.pR hk
   have e3:=e2.symm.trans e
   cases e3
   omega
 have aec:∀(u:Value) (n:Nat) (ys:List Value) (BB:Nat),Sl wa BB Cm 1 u n ys→(∀k,u.ownBlock=some k→vo.ownBlock≠some k)→Sl (w7.setCell ⟨b,2+8,none⟩ v') BB Cm 1 u n ys:=fun u n ys BB hs ha=>
  (hs.keep fun bb c hbb _ hblk=>hblk.keeps KU (fun e=>ha bb hbb e)).kp hst.2 (.inl (by decide))
 refine⟨hst.1,⟨hc.st.keeps Qr fun k hk hB=>by have:=hc.low k hk;have:B≤k:=hB;omega,hc.low,mb,v',vr,M,by rw[hce];rfl,?_⟩,fun v=>⟨fun hv t ht he=>absurd (he.symm.trans (hts t ht)) (by decide),fun hv t ht he=>?_⟩,Qr⟩
 ·refine⟨hma.le,(hma.map.kp xg).kp hst.2,hma.keys,fun e he=>?_,?_,aec _ _ _ _ hma.refs hma.apart,fun k hk=>hap vr k _ _ _ hma.refs hma.apart hk,hma.nil⟩
  ·obtain⟨p',hp',hq⟩:=hma.ents e he
   obtain⟨vt,uu,r1,r2,r3,r4,r5⟩:=hq.blk
   exact⟨p',hp',hq.le,vt,uu,(r1.kp xg (.inr (by decide))).kp hst.2 (.inr (by decide)),r2,aec _ _ _ _ r3 r5,r4,fun k hk=>hap uu k _ _ _ r3 r5 hk⟩
  ·have h1:=hs7.kp hst.2 (.inl (by decide))
   show Sl _ B Cm 1 _ (x.order++[x.name]).length (bf (x.order++[x.name]))
   rw[List.length_append,List.length_singleton]
   have e1:bf (x.order++[x.name])=bf x.order++[sv x.name]:=by simp[bf]
   rw[e1]
   exact h1
 ·have hve:v=v':=by
   rw[hce] at hv
   simpa using hv.symm
  subst hve
  have hj:=hpa.jobs t ht
  have hj7:=Qd.jobs t ht
  have hf1:=(hfa _).2 hv2 t ht he
  rw[he] at hj hj7
  refine nZ.kpN hj7 ?_ hst.2 (by decide)
  obtain⟨Zc,bp0,bt0,Zd,hf0,hb0,hs0,-⟩:=hj
  intro bm bp bt vm hfv hbv
  rw[hf0] at hfv
  have e1:Zc=bm:=by simp at hfv;exact hfv.1
  subst e1
  have h2:=(hb0.kp xg (.inr (by decide))).inj hbv
  have e2:vm=Zd:=by simpa using h2.1.symm
  subst e2
  exact(Xh 0 vm _ _ hs0 (hf1 _ _ _ _ hf0 hb0)).2
theorem Pq{B b:Nat}{tail:PT}{ts:List (Job×Value)}{σ:aT}{w:World}{vr vt vl va:Value}(h:pq B b tail ts σ w vr vt vl va):
 Calls Tryz.prog 155 #[.pointer (some ⟨b,0,none⟩)] w fun ed w'=>ed=.returned vl∧w=w':=by
 have c5:w.cell? ⟨b,5,none⟩=some vl:=(h.blk.cell 5).trans (aY ..).2.2.2.2.2.1
 obtain⟨la,lc,rfl,-,-⟩:=h.nodes.shape
 clear h
 go_enter Tryz.func155,Tryz.ntmps155
 go_wp2_with fail
 go_ret
 exact⟨rfl,rfl⟩
theorem Xi{B b:Nat}{tail:PT}{ts:List (Job×Value)}{σ:aT}{w:World}{F:Nat→Prop}{s:Nat}(h:PA B b tail ts σ w)(hc:vG w B tail σ.x F s)(nm:List UInt8)(hn:nm.length≤1000)(p:Int)
 (hfx:EF σ) (h30:σ.nodes.length≤30) (hB:σ.at'≤549755813888) (hts:∀t∈ts,t.1=gU) (EP:pK w tail.cells ts):
 Calls Tryz.prog 130 #[.pointer (some ⟨b,0,none⟩),sv nm,.int .i64 p] w (Fe B b ts (aN .oC nm p σ) F s w):=by
 obtain⟨sm,mb,L,M,vo,ra,rc,hrd,hmem,hcells,hr1,hr2⟩:=hc.rd h
 obtain⟨hsmall,Xj⟩:=Ii hfx.nsz h30
 have hnl:σ.x.name.length≤1099511627776:=by have:=hfx.name;omega
 have H0:=Lib.hid h
 have C0:=Lib.hid hc
 have Gy:=Lib.hid hcells
 have HFX:=Lib.hid hfx
 have HTS:=Lib.hid hts
 have Jw:=Lib.hid EP
 have yc:Hid (Tryz.prog.underlying 82=some (.map 9 81)):=Tryz.underlying82
 obtain⟨ur,ut,ul,ua,hpa⟩:=h
 obtain⟨la,lc,rfl,hl1,hl2⟩:=hpa.nodes.shape
 have fJ:=Lib.hid hpa
 have amr:=hpa.lt
 have ams:=hpa.le
 have c12:=hrd.c12
 have ZY:Hid (∀wx,Keeps Non w wx→Calls Tryz.prog 155 #[.pointer (some ⟨b,0,none⟩)] wx fun ed w'=>ed=.returned (.slice la σ.nodes.length lc)∧wx=w'):=fun wx hk=>Pq (fJ.out.keeps hk)
 have vF:Hid (∀wx,Keeps Non w wx→Calls Tryz.prog 56 #[.slice la σ.nodes.length lc] wx fun e w'=>e=.returned (.string ⟨(aJ σ.nodes).toArray⟩)∧Keeps Non wx w'):=fun wx hk=>JY _ σ.nodes wx (fJ.out.nodes.rd.non hk) (by omega) hsmall Xj
 have iD:Hid (∀wx,Keeps Non w wx→wx.cell? ⟨b,12,none⟩=some (.slice ra σ.x.refs.length rc)):=fun wx hk=>by
  have h1:=(iF (fJ.out.keeps hk) 4).1
  rw[Gy.out] at h1
  exact h1
 have FV:Keeps Non w w:=Keeps.refl _ _
 have Uc:=Lib.hid Xj
 unfold maxLen at hl2 hr2
 clear hc hrd hmem hcells hpa hsmall hfx Xj hts EP
 unfold sv
 go_enter Tryz.func130,Tryz.ntmps130
 go_upto_region 0 with(fail)
 go_cut [6] (fun ev wx=>∃q,ev=.pointer (some ⟨q,0,none⟩)∧w.heap.size≤q∧Hid (aS wx q #[sv (aJ σ.nodes),.slice la σ.nodes.length lc,.slice ra σ.x.refs.length rc] TE)∧Hid (Keeps Non w wx))
 case first=>
  go_region_held3 (fun w'=>w'.cell? ⟨b,12,none⟩=some (.slice ra σ.x.refs.length rc)) (first|exact c12|exact iD.out _ FV|exact iD.out _ FV.drew|exact iD.out _ (FV.alloc _)|exact iD.out _ (FV.drew.alloc _)) (first
   |(go_at_call 155
     refine(ZY.out _ (by first|exact FV|exact FV.drew)).mono ?_
     rintro e w2 ⟨rfl,rfl⟩)
   |(go_at_call 56
     refine(vF.out _ (by first|exact FV|exact FV.drew)).mono ?_
     rintro e w2 ⟨rfl,hk⟩
     replace FV:=Keeps.tn FV (by first|exact hk|exact hk.un)
     clear hk))
  all_goals (
   go_wp2_with fail
   go_meet
   refine⟨_,rfl,FV.size,aS.new _ _ _,FV.alloc _⟩)
 case rest=>
  obtain⟨q,rfl,hq,HBE,iy⟩:=hcut
  generalize wc=w1 at *
  have H1:=Lib.hid (H0.out.keeps iy.out)
  have C1:=Lib.hid (C0.out.non iy.out)
  clear c12 FV iD ZY vF
  obtain⟨sm1,L1,M1,Pv,aed⟩:=C1.out.rd2 H1.out Gy.out
  have c8:=Pv.c8
  have c11:=Pv.c11
  have cs:=Pv.cs
  have hlook:∃ov,(getM L1 σ.x.name).getD (.pointer none)=ov∧QI w1 F σ.x ov:=by
   obtain⟨sm2,L2,g1,g2,g3,g4,g5,g6⟩:=C1.out.st.map
   have e1:sm2=sm1:=by
    have:=(g2.cell 0).symm.trans cs
    simpa using this
   subst e1
   have e2:getM L1 σ.x.name=getM L2 σ.x.name:=by
    cases hf:aA σ.x.has σ.x.name with
    |none=>
     rw[Pv.abm _ hf]
     rcases aU.look g3 g5 g6 σ.x.name with⟨-,g⟩|⟨e,p,g,-⟩
     ·exact g.symm
     ·rw[hf] at g;cases g
    |some e=>
     exact MapAt.get_inj Pv.sm g3 _
   rw[e2]
   rcases aU.look g3 g5 g6 σ.x.name with⟨hf,hg⟩|⟨e,p,hf,-,-,hg,hE⟩
   ·exact⟨_,rfl,.inl ⟨hf,by rw[hg];rfl⟩⟩
   ·exact⟨_,rfl,.inr ⟨e,p,hf,by rw[hg];rfl,hE⟩⟩
  obtain⟨ov,hov,hold⟩:=hlook
  have HOLD:=Lib.hid hold
  have ah9:(∃x,ov=.pointer x):=by
   rcases hold with⟨-,e⟩|⟨e,q,-,h2,-⟩
   ·exact⟨_,e⟩
   ·exact⟨_,h2⟩
  have hlk:∀n,Sem.run Tryz.prog (Instr.lookup 82 (.map (some sm1)) (.string ⟨σ.x.name.toArray⟩) false) (w1.drewN n)=.ok ov (w1.drewN n):=fun n=>by
   have h1:=lg (P:=Tryz.prog) (w:=w1.drewN n) yc.out Tryz.underlying9 (z:=.pointer none) (Tryz.zeroValue81 _) (Pv.sm.keeps (S:=Non) ((Keeps.refl _ _).drewN n) (fun h=>h)) hnl false
   rw[if_neg (by simp),hov] at h1
   exact h1
  clear Pv aed hold hov
  unfold sv pv at *
  go_upto_region 1 with(fail)
  go_cut [7] (fun v wx=>v=ov∧∃n,wx=w1.drewN n)
  case first=>
   obtain⟨x,rfl⟩:=ah9
   go_quiet (fail)
   go_wp2_with fail
   go_meet
   exact⟨rfl,_,rfl⟩
  case rest=>
   obtain⟨rfl,nz,rfl⟩:=hcut
   have iP:=Lib.hid (iy.out.drewN nz)
   have H2:=Lib.hid (H1.out.keeps ((Keeps.refl _ _).drewN nz))
   have C2:=Lib.hid (C1.out.drewN nz)
   have aee:Hid (aS (w1.drewN nz) q #[sv (aJ σ.nodes),.slice la σ.nodes.length lc,.slice ra σ.x.refs.length rc] TE):=HBE.out
   have Z4:=Lib.hid (HOLD.out.ge ((Keeps.refl (GE B) _).drewN nz) C1.out.low)
   clear iy H1 C1 HBE HOLD hlk c8 c11 cs
   generalize w1.drewN nz=w2 at *
   obtain⟨sm2,L2,M2,abn,rW⟩:=C2.out.rd2 H2.out Gy.out
   have c9:=abn.c9
   have HMM:=Lib.hid abn.mm
   have HCT:=Lib.hid (Na rW.keys)
   have ZY:Hid ((M2.map Prod.fst).Nodup):=rW.map.nodup
   have hlen2:(M2.map Prod.fst).length≤549755813888:=by
    have h1:=rW.keys.length_eq
    have h9:=HFX.out.came
    have h10:(σ.x.came.map dI.path).length=σ.x.came.length:=List.length_map ..
    omega
   have Z5:=Lib.hid hlen2
   clear abn rW hlen2
   go_wp2_with (first|(at_range;refine Ar _ rfl _ _ rfl _ _ yc.out mb M2 rfl HMM.out ?_;intro w3 hit3 hk3 hs3))
   obtain⟨ir,hir⟩:∃ir,ir=w2.heap.size:=⟨_,rfl⟩
   rw[←hir] at hit3
   rw[←hir]
   have aef:=Lib.hid hit3
   have HIR:Hid (w2.heap.size≤ir):=by show _≤_;omega
   have kL:Hid (Keeps Non w2 w3):=hk3
   clear hit3 hk3 hs3 hir c9
   go_frame
   go_loopg [8] (M2.map Prod.fst).length (fun gk cv wx=>∃(todo:List (List UInt8)) (c:Nat),gk=todo.length∧cv=.int .i64 c∧Hid (jh wx ir mb M2 todo)∧Hid (todo.Nodup)∧Hid (c+todo.countP (fun p=>(aA σ.x.has p).isNone)=jZ σ.x)∧Hid (Keeps Non w2 wx)∧Hid (c+todo.length≤549755813888))
   case atStart=>exact⟨_,0,rfl,rfl,aef,ZY,by show _=_;rw[Nat.zero_add];exact HCT.out,kL,by show _≤_;rw[Nat.zero_add];exact Z5.out⟩
   case round=>
    clear aef kL ZY HCT Z5 HMM
    obtain⟨todo,c,rfl,rfl,HIT,HNO,HCN,pO,CU⟩:=hrel
    by_cases hemp:todo=[]
    ·subst hemp
     have hc:c=jZ σ.x:=by have:=HCN.out;simpa using this
     subst hc
     have HMX:=Lib.hid HIT.out.map
     have hfn:=CU.out
     simp only[List.length_nil,Nat.add_zero] at hfn
     have H4:=Lib.hid (H2.out.keeps pO.out)
     have C4:=Lib.hid (C2.out.non pO.out)
     have Tt:=Lib.hid (aee.out.keeps pO.out fun h=>h)
     have QJ:=Lib.hid (Z4.out.ge pO.out.ge C2.out.low)
     have wS:=Lib.hid (iP.out.tn pO.out)
     go_upto_block 2 with(first|(at_next;refine sU _ rfl _ rfl ir mb M2 [] rfl HIT.out (fun _=>?_) (fun k v w' hk=>absurd hk (by simp))))
     clear HIT HNO HCN pO CU H2 C2 aee Z4 iP HIR HMX
     generalize wr=w4 at *
     go_cut [] (fun wx=>Hid (∃vr',pq B b tail ts (σ.aO (dU σ.x σ.nodes nm) p) wx vr' ut (.slice la σ.nodes.length lc) ua)∧Hid (vG wx B tail σ.x F s)∧Hid (Keeps (GE B) w wx)∧Hid (aS wx q #[sv (aJ σ.nodes),.slice la σ.nodes.length lc,.slice ra σ.x.refs.length rc] TE)∧Hid (pK wx tail.cells ts))
     case first=>
      have cq:=Tt.out.cell 0
      simp only[List.getElem?_toArray,List.getElem?_cons_zero] at cq
      unfold sv at cq
      have hps:(⟨(aJ σ.nodes).toArray⟩:ByteArray).size≤maxLen:=by
       have h1:=Uc.out
       show(aJ σ.nodes).toArray.size≤maxLen
       rw[List.size_toArray]
       unfold maxLen
       omega
      obtain⟨S,hS⟩:∃S,sumOf (aJ σ.nodes)=S:=⟨_,rfl⟩
      have Jc:=Lib.hid (sum_any ⟨(aJ σ.nodes).toArray⟩ w4 hps)
      have zu:Hid (sumOf (⟨(aJ σ.nodes).toArray⟩:ByteArray).data.toList=S):=hS
      have rD:=Lib.hid hS
      clear hps hS
      by_cases hsum:nm=S.data.toList
      ·have hb:(!nm==S.toList)=false:=by rw[ByteArray.toList_eq,hsum];simp
       have Ue:=Lib.hid hsum
       clear hsum
       go_wp2_with fail
       refine Jc.out.mono ?_
       rintro e w5 ⟨rfl,hk5⟩
       rw[zu.out]
       have Xk:=Lib.hid (wS.out.tn hk5)
       have H5:=Lib.hid (fJ.out.keeps Xk.out)
       have C5:=Lib.hid (C4.out.non hk5)
       have Jy:=Lib.hid (Tt.out.keeps hk5 fun h=>h)
       have aeh:=Lib.hid (QJ.out.ge hk5.ge C4.out.low)
       have ng:Hid (Keeps (GE B) w w5):=(wS.out.tn hk5).ge
       have Nb:=Lib.hid (Jw.out.kp H0.out (Kp.aI (B:=B) (Ts:=[]) Xk.out) (by simp))
       clear hk5 H4 C4 Tt QJ wS cq Jc
       obtain⟨sm5,L5,M5,uN,IE⟩:=C5.out.rd2 ⟨_,_,_,_,H5.out⟩ Gy.out
       have c8:=uN.c8
       have cs:=uN.cs
       unfold pv at c8
       rcases aeh.out with⟨hf,rfl⟩|⟨e,oq,hf,rfl,hE⟩
       ·have acN:∀ty,Sem.run Tryz.prog (Builtin.len_ #[82] ty #[.map (some sm5)]) w5=.ok (.int .i64 σ.x.has.length) w5:=fun ty=>by rw[←uN.len];exact run_len_map yc.out uN.sm ty
        have Jg:=C5.out.st.ok.ten
        clear uN IE
        by_cases h10:σ.x.has.length+jZ σ.x=10
        ·have hb2:(((σ.x.has.length:Int)+(jZ σ.x:Int))==10)=true:=by rw[beq_iff_eq];omega
         have HE:Hid (dU σ.x σ.nodes nm=14):=by show _=_;unfold dU;rw[rD.out,if_neg (by simp[Ue.out]),hf];simp only;rw[if_pos h10]
         clear h10 hf
         go_wp2_with fail
         refine(xE H5.out 14 p).mono ?_
         rintro e w6 ⟨rfl,h6,k6⟩
         have H6:=Lib.hid h6
         have C6:=Lib.hid (C5.out.kp k6 (by decide) (by decide))
         have K6:=Lib.hid (ng.out.gg k6.ge)
         have Yc:=Lib.hid (Jy.out.kp k6 (.inr (by decide)))
         have Tv:=Lib.hid (Nb.out.kp ⟨_,_,_,_,H5.out⟩ k6 (by decide))
         clear h6 k6
         go_wp2_with fail
         go_meet
         rw[HE.out]
         exact⟨H6,C6,K6,Yc,Tv⟩
        ·have hb2:(((σ.x.has.length:Int)+(jZ σ.x:Int))==10)=false:=by rw[beq_eq_false_iff_ne];omega
         have HE:Hid (dU σ.x σ.nodes nm=0):=by show _=_;unfold dU;rw[rD.out,if_neg (by simp[Ue.out]),hf];simp only;rw[if_neg h10]
         clear h10 hf
         go_wp2_with fail
         go_meet
         rw[HE.out]
         exact⟨⟨_,H5.out⟩,C5,ng,Jy,Nb⟩
       ·have hnew:lq w5 (GE B) q (σ.x.ent σ.nodes):=by
         have hn5:=H5.out.nodes
         have hr5:=IE.refs
         exact⟨by show B≤q;omega,_,_,Jy.out,hn5.rd,hr5.rd,fun k hk=>(hn5.own k hk).1,fun k hk=>(hr5.own k hk).1⟩
        have pW:=Lib.hid (GR w5 hE hnew)
        unfold pv at pW
        clear uN IE hnew hE
        go_wp2_with fail
        refine pW.out.mono ?_
        rintro ed w6 ⟨rfl,nz6,rfl⟩
        have H6:=Lib.hid (H5.out.keeps ((Keeps.refl _ _).drewN nz6))
        have C6:=Lib.hid (C5.out.drewN nz6)
        have K6:=Lib.hid (ng.out.drewN nz6)
        have Yc:Hid (aS (w5.drewN nz6) q #[sv (aJ σ.nodes),.slice la σ.nodes.length lc,.slice ra σ.x.refs.length rc] TE):=Jy.out
        have Tv:Hid (pK (w5.drewN nz6) tail.cells ts):=Nb.out
        cases hse:jM e (σ.x.ent σ.nodes) with
        |true=>
         have HE:Hid (dU σ.x σ.nodes nm=0):=by show _=_;unfold dU;rw[rD.out,if_neg (by simp[Ue.out]),hf];simp only;rw[hse];rfl
         clear hse hf
         go_wp2_with fail
         go_meet
         rw[HE.out]
         exact⟨⟨_,H6.out⟩,C6,K6,Yc,Tv⟩
        |false=>
         have HE:Hid (dU σ.x σ.nodes nm=12):=by show _=_;unfold dU;rw[rD.out,if_neg (by simp[Ue.out]),hf];simp only;rw[hse];rfl
         clear hse hf
         go_wp2_with fail
         refine(xE H6.out 12 p).mono ?_
         rintro e w7 ⟨rfl,h7,k7⟩
         have H7:=Lib.hid h7
         have C7:=Lib.hid (C6.out.kp k7 (by decide) (by decide))
         have K7:=Lib.hid (K6.out.gg k7.ge)
         have HB7:=Lib.hid (Yc.out.kp k7 (.inr (by decide)))
         have aia:=Lib.hid (Tv.out.kp ⟨_,_,_,_,H6.out⟩ k7 (by decide))
         clear h7 k7
         go_wp2_with fail
         go_meet
         rw[HE.out]
         exact⟨H7,C7,K7,HB7,aia⟩
      ·have hb:(!nm==S.toList)=true:=by rw[ByteArray.toList_eq];simpa using hsum
       have HE:Hid (dU σ.x σ.nodes nm=16):=by show _=_;unfold dU;rw[rD.out,if_pos hsum]
       clear hsum
       go_wp2_with fail
       refine Jc.out.mono ?_
       rintro e w5 ⟨rfl,hk5⟩
       rw[zu.out]
       have Xk:=Lib.hid (wS.out.tn hk5)
       have H5:=Lib.hid (fJ.out.keeps Xk.out)
       have C5:=Lib.hid (C4.out.non hk5)
       have Jy:=Lib.hid (Tt.out.keeps hk5 fun h=>h)
       have ng:Hid (Keeps (GE B) w w5):=(wS.out.tn hk5).ge
       have Nb:=Lib.hid (Jw.out.kp H0.out (Kp.aI (B:=B) (Ts:=[]) Xk.out) (by simp))
       clear hk5 H4 C4 Tt QJ wS cq Jc
       go_wp2_with fail
       refine(xE H5.out 16 p).mono ?_
       rintro e w6 ⟨rfl,h6,k6⟩
       have H6:=Lib.hid h6
       have C6:=Lib.hid (C5.out.kp k6 (by decide) (by decide))
       have K6:=Lib.hid (ng.out.gg k6.ge)
       have Yc:=Lib.hid (Jy.out.kp k6 (.inr (by decide)))
       have Tv:=Lib.hid (Nb.out.kp ⟨_,_,_,_,H5.out⟩ k6 (by decide))
       clear h6 k6
       go_wp2_with fail
       go_meet
       rw[HE.out]
       exact⟨H6,C6,K6,Yc,Tv⟩
     case rest=>
      obtain⟨⟨vr5,hp5⟩,C5,ng,Jy,Nb⟩:=hcut
      generalize wc=w5 at *
      clear H4 C4 Tt QJ wS
      obtain⟨σ2,hσ2⟩:∃σ2,σ.aO (dU σ.x σ.nodes nm) p=σ2:=⟨_,rfl⟩
      have hn2:σ2.nodes=σ.nodes:=by rw[←hσ2];exact(Lu ..).2
      rw[hσ2] at hp5
      have rD:=Lib.hid hσ2
      have Yo:=Lib.hid hn2
      have NM:=Lib.hid hp5
      obtain⟨sm5,L5,M5,uN,IE⟩:=C5.out.rd2 ⟨_,_,_,_,hp5⟩ Gy.out
      have c9:=uN.c9
      have c11:=uN.c11
      have HM5:=Lib.hid IE
      have aek:=Lib.hid uN.mm
      have hbq:B≤q:=by omega
      clear uN IE hp5 hσ2 hn2
      unfold sv at c11
      go_upto_region 14 with(fail)
      go_cut [] (fun wx=>Hid (MapAt wx mb (jJ M5 σ.x.name (pv q)))∧Hid (Keeps (One mb) w5 wx)∧wx.heap.size=w5.heap.size)
      case first=>
       obtain⟨w6,hmu,Z7,hk6,hs6⟩:∃w6,Sem.run Tryz.prog (Instr.mapUpdate 82 (.map (some mb)) (.string ⟨σ.x.name.toArray⟩) (.pointer (some ⟨q,0,none⟩))) w5.drew=.ok () w6∧MapAt w6 mb (jJ M5 σ.x.name (pv q))∧Keeps (One mb) w5 w6∧w6.heap.size=w5.heap.size:=by
        obtain⟨es,clock,hb,hM⟩:=aek.out
        obtain⟨es',clock',h1,h2,h3,-⟩:=nO (P:=Tryz.prog) (w:=w5.drew) yc.out Tryz.underlying9 hb hM (k:=σ.x.name) hnl (pv q)
        exact⟨_,h1,⟨es',clock',(heap_set hb).1,h2⟩,⟨h3.os,h3.tape,h3.output,h3.size,h3.block⟩,by simp⟩
       have HM6:=Lib.hid Z7
       have Xl:=Lib.hid hk6
       clear Z7 hk6
       go_region_with (fail)
       all_goals (
        go_wp2_with fail
        go_meet
        exact⟨HM6,Xl,hs6⟩)
      case rest=>
       obtain⟨HM6,Xl,hs6⟩:=hcut
       generalize wc=w6 at *
       have hmid:=Xf NM.out Yo.out C5.out Gy.out HM5.out HFX.out.once hbq Jy.out Nb.out HTS.out HM6.out Xl.out
       obtain⟨D6,Z7,hc6,hf6⟩:=hmid
       have ael:B≤mb:=Z7.le
       have yU:Hid (Keeps (GE B) w w6):=ng.out.trans Xl.out fun k hk=>.inl (by cases hk;exact ael)
       clear HM6 Xl hs6 c9 c11 Jy ng Nb C5 HM5 aek NM
       have c10:=(iF D6 2).1
       have c11:=(iF D6 3).1
       rw[Gy.out] at c10 c11
       simp only[List.getElem?_cons_zero,List.getElem?_cons_succ,Nat.reduceAdd] at c10 c11
       obtain⟨oa,oc,rfl,ho1,ho2⟩:=Z7.order.shape
       have hsl:=Z7.order
       have amv:=HFX.out.order
       have hbs:=D6.blk.lt
       have hlb:=D6.le
       have Gl:=Lib.hid D6
       have HM6:=Lib.hid Z7
       have Uj:=Lib.hid hc6
       have HF6:=Lib.hid hf6
       have Nc:({σ.x with came:=tu σ.x.came (σ.x.ent σ.nodes)}:CX).order.length=σ.x.order.length:=rfl
       unfold maxLen at ho2
       rw[Nc] at hsl c10
       clear D6 Z7 hc6 hf6 Nc
       obtain⟨i0,hi,hi0,hi1,hi2⟩:=info_parts wK
       go_upto_region 15 with(fail)
       go_region_law (refine oQ rfl _ _ 26 26 rfl 9 i0 _ 1 16 Tryz.underlying26 hi hi0 hi1 hi2 rfl B (.slice oa σ.x.order.length oc) _ _ rfl _ rfl 1 [.string ⟨σ.x.name.toArray⟩] (by simp;omega) (by first|exact hsl.alloc _|exact hsl) (by first|exact Src.kP Tryz.underlying26 (Sl.dM w6 0 (Nat.zero_le _) 9 1 1 [.string ⟨σ.x.name.toArray⟩] rfl (by simp[maxLen])) (by intro u hu;simp only[List.mem_cons,List.not_mem_nil,or_false] at hu;rcases hu with rfl;rfl)) (by unfold maxLen;omega) (by omega) ?_;intro ao cc w7 hs7 xg KU hb7 Xh;have X7:=Lib.hid hs7;have OC:Hid (Kp B [Cm] (w6.alloc (.cells #[.string ⟨σ.x.name.toArray⟩] 9)) w7):=Kp.gJ xg;have aem:Hid (Keeps (jC (.slice oa σ.x.order.length oc)) (w6.alloc (.cells #[.string ⟨σ.x.name.toArray⟩] 9)) w7):=Keeps.gJ KU;have HB7:=Lib.hid hb7;have aen:Hid (∀(B':Nat) (t:Value) (k:Nat) (ys:List Value),Sl (w6.alloc (.cells #[.string ⟨σ.x.name.toArray⟩] 9)) B' Cm 1 t k ys→Ahead 1 (.slice oa σ.x.order.length oc) t→Sl w7 B' Cm 1 t k ys∧Ahead 1 (.slice ao (σ.x.order.length+1) cc) t):=fun B' t k ys ht ha=>Xh B' t k ys (by first|exact ht|exact ht.drewN 1) ha;have B7:=Lib.hid ((Gl.out.blk.alloc (.cells #[.string ⟨σ.x.name.toArray⟩] 9)).kp OC.out (.inr (by decide)));have c107:w7.cell? ⟨b,10,none⟩=some (.slice oa σ.x.order.length oc):=(B7.out.cell 10).trans (by simp[eF,Gy.out]);have f107:=B7.out.free 10;clear hs7 xg KU hb7 Xh)
       all_goals (
        have hend:=Xg Gl.out HM6.out Uj.out HF6.out Gy.out HTS.out ((Keeps.refl Non _).alloc (.cells #[.string ⟨σ.x.name.toArray⟩] 9)) X7.out OC.out aem.out HB7.out aen.out
        obtain⟨e1,e2,e3,e4⟩:=hend
        have E1:=Lib.hid e1
        have E2:=Lib.hid e2
        have E3:=Lib.hid e3
        have E4:=Lib.hid (yU.out.gg e4)
        clear e1 e2 e3 e4 X7 OC aem HB7 aen B7 c107 f107 hsl c10 c11 hi hi0 hi1 hi2
        go_wp2_with fail
        go_end0
        refine⟨rfl,⟨[],_,rfl,?_,E2.out,?_⟩,E4.out⟩
        ·rw[List.append_nil]
         have h6:PA B b _ ts σ2 _:=⟨_,_,_,_,E1.out⟩
         rw[←rD.out] at h6
         exact h6.upx _
        ·rw[List.append_nil]
         exact E3.out)
    ·go_upto_region 6 with(first|(at_next;refine sU _ rfl _ rfl ir mb M2 todo rfl HIT.out (fun h=>absurd h hemp) ?_;intro k v9 w9 hkt hv9 Ci OO VJ VK))
     have hkl:k.length≤1099511627776:=by
      obtain⟨es,c,-,hm⟩:=HIT.out.map
      exact hm.small _ ((jE hm.keys).1 hv9)
     have OQ:=rM hkt
     have aeo:=CU.out
     have Zg:Hid (Keeps Non w2 w9):=pO.out.trans OO fun j hj=>.inr (by cases hj;exact HIR.out)
     have Ec:=Lib.hid Ci
     have aep:Hid ((todo.filter fun x=>x !=k).Nodup):=HNO.out.filter _
     have hcs:=Fj (fr:=fun p=>(aA σ.x.has p).isNone) HNO.out hkt
     have hcn:=HCN.out
     obtain⟨sm5,L5,M5,uN,-⟩:=(C2.out.non Zg.out).rd2 (H2.out.keeps Zg.out) Gy.out
     have c8:=uN.c8
     have cs:=uN.cs
     have aer:=Lib.hid uN.sm
     unfold sv at VK
     unfold pv at c8
     cases hf:aA σ.x.has k with
     |none=>
      have iG:Hid ((getM L5 k).getD (.pointer none)=.pointer none):=by show _=_;rw[uN.abm _ hf];rfl
      have abo:Hid (c+1+(todo.filter fun x=>x !=k).countP (fun p=>(aA σ.x.has p).isNone)=jZ σ.x):=by
       show _=_
       rw[hf] at hcs
       simp only[Option.isNone_none,if_true] at hcs
       omega
      have abp:Hid (c+1+(todo.filter fun x=>x !=k).length≤549755813888):=by show _≤_;omega
      have hcb:c+1≤549755813888:=by omega
      clear uN hcs hcn hf hemp HIT HNO HCN pO CU hkt hv9 Ci OO VJ
      go_wp2_with (first|(at_lookup;refine eG _ rfl _ _ _ rfl _ _ yc.out Tryz.underlying9 (.pointer none) (Tryz.zeroValue81 _) sm5 L5 rfl aer.out k rfl hkl ?_;rw[iG.out]))
      go_roundg (todo.filter fun z=>z !=k).length
      case measure=>exact OQ
      case rel=>exact⟨_,c+1,rfl,by go_num,Ec,aep,abo,Zg,abp⟩
     |some e=>
      obtain⟨pe,hpe⟩:=uN.ad6 _ _ hf
      have iG:Hid ((getM L5 k).getD (.pointer none)=.pointer (some ⟨pe,0,none⟩)):=by show _=_;rw[hpe];rfl
      have abo:Hid (c+(todo.filter fun x=>x !=k).countP (fun p=>(aA σ.x.has p).isNone)=jZ σ.x):=by
       show _=_
       rw[hf] at hcs
       simp only[Option.isNone_some,Bool.false_eq_true,if_false] at hcs
       omega
      have abp:Hid (c+(todo.filter fun x=>x !=k).length≤549755813888):=by show _≤_;omega
      clear uN hcs hcn hf hemp HIT HNO HCN pO CU hkt hv9 Ci OO VJ hpe aeo
      go_wp2_with (first|(at_lookup;refine eG _ rfl _ _ _ rfl _ _ yc.out Tryz.underlying9 (.pointer none) (Tryz.zeroValue81 _) sm5 L5 rfl aer.out k rfl hkl ?_;rw[iG.out]))
      go_roundg (todo.filter fun z=>z !=k).length
      case measure=>exact OQ
      case rel=>exact⟨_,c,rfl,rfl,Ec,aep,abo,Zg,abp⟩
end Go.Proofs.YtdkogijdfgfpeaaGreatDoor

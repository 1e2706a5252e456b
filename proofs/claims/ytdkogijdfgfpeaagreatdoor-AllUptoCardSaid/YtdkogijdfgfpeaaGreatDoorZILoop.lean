/- (*tree.Parser).Run in an import. -/
import Derived.Test.YtdkogijdfgfpeaaGreatDoorZPName
import Derived.Test.YtdkogijdfgfpeaaGreatDoorZITree
import Derived.Test.YtdkogijdfgfpeaaGreatDoorZISum
import Derived.Test.YtdkogijdfgfpeaaGreatDoorZShape
set_option linter.unusedVariables false
set_option maxHeartbeats 1600000
set_option maxRecDepth 100000
namespace Go.Proofs.YtdkogijdfgfpeaaGreatDoor
open Go Go.RowKit
def Job.imp:Job→Bool
 | .word _ .next'=>true
 | .word _ .more=>true
 | .jB=>true
 | .oP=>true
 | .oC=>true
 |_=>false
def Job.last(j:Job):List Job:=
 match j with
 | .oP=>[fC]
 | .oC=>[gU]
 |_=>[]
def IG:List Job→Prop
 | []=>True
 |j :: js=>if j.imp then js=j.last else IG js
theorem IG.app:∀{A js:List Job},A.all (fun j=> !j.imp)=true→IG js→IG (A++js)
 | [],js,_,h=>h
 |a :: A,js,ha,h=>by
  rw[List.all_cons,Bool.and_eq_true] at ha
  show if a.imp then _ else _
  rw[if_neg (by simpa using ha.1)]
  exact IG.app ha.2 h
theorem Xm(j:Job)(js:List Job)(s:List UInt8)(p:Int)(σ:aT)(h:IG (j :: js)):IG ((aN j s p σ).1++js):=by
 have hp:j.imp=false→IG js:=fun e=>by
  have h2:if j.imp then js=j.last else IG js:=h
  rwa [if_neg (by simp[e])] at h2
 have hi:j.imp=true→js=j.last:=fun e=>by
  have h2:if j.imp then js=j.last else IG js:=h
  rwa [if_pos e] at h2
 cases j with
 |word may act=>
  simp only[aN]
  split
  ·cases act <;> simp only[bI]
   ·exact hp rfl
   ·exact hp rfl
   ·split
    ·exact IG.app (A:=[_]) rfl (hp rfl)
    ·split
     ·exact IG.app (A:=[_,_,_]) rfl (hp rfl)
     ·split
      ·exact IG.app (A:=[_]) rfl (hp rfl)
      ·exact hp rfl
   ·split
    ·exact IG.app (A:=[_,_,_,_]) rfl (hp rfl)
    ·exact IG.app (A:=[_,_]) rfl (hp rfl)
   ·split
    ·exact hp rfl
    ·exact IG.app rfl (hp rfl)
   ·rw[hi rfl]
    split
    ·exact rfl
    ·trivial
   ·rw[hi rfl]
    split
    ·exact rfl
    ·exact rfl
  ·cases act <;> first|exact hp rfl|(rw[hi rfl];trivial)
 |leads=>exact hp rfl
 |name=>exact hp rfl
 |keep k=>exact hp rfl
 |jB=>
  rw[hi rfl]
  show IG (qV++[.word [fQ] .none]++[fC])
  exact IG.app (A:=qV++[.word [fQ] .none]) rfl (show IG [fC] from rfl)
 |oP=>rw[hi rfl];exact rfl
 |oC=>rw[hi rfl];exact rfl
theorem zL{ts:List (Job×Value)}{js:List Job}(h:gY ts=js):∀t∈ts,t.1∈js:=fun t ht=>by
 rw[←h]
 exact List.mem_reverse.2 (List.mem_map.2 ⟨t,ht,rfl⟩)
theorem pK.sub{w:World}{cells:List Value}{ts us:List (Job×Value)}(h:pK w cells (ts++us)):pK w cells ts:=fun v=>⟨fun hv t ht he=>(h v).1 hv t (List.mem_append.2 (.inl ht)) he,fun hv t ht he=>(h v).2 hv t (List.mem_append.2 (.inl ht)) he⟩
structure II(B b:Nat)(F:Nat→Prop)(s:Nat)(ts:List (Job×Value))(σ:aT)(w:World):Prop where
 mem:∃tail,PA B b tail ts σ w∧vG w B tail σ.x F s∧pK w tail.cells ts
 shape:IG (gY ts)
 ok:OkJ (gY ts) σ.above.length
 fit:xM ts.length σ
 dry:σ.Gn
 fx:EF σ
 oka:∃f,CZ (gY ts) f∧Cnt σ f
theorem EF.fail{σ:aT}(h:EF σ)(e p:Int):EF (σ.fail e p):=by
 obtain⟨q1,q2,q3,q4,q5⟩:=fO σ e p
 have qx:=(mV σ e p).1
 exact⟨by rw[q2];exact h.nsz,by rw[qx];exact h.name,by rw[qx,q4];exact h.refs,by rw[qx];exact h.rsz,by rw[qx,q4];exact h.came,by rw[qx,q4];exact h.order,by rw[qx];exact h.osz,by rw[qx];exact h.fit,by rw[qx];exact h.once⟩
theorem II.fail{B b:Nat}{F:Nat→Prop}{s:Nat}{ts:List (Job×Value)}{σ:aT}{w w':World}(h:II B b F s ts σ w)(e p:Int){tail:PT}(h1:PA B b tail ts (σ.fail e p) w')(h2:vG w' B tail σ.x F s)(h5:pK w' tail.cells ts):II B b F s ts (σ.fail e p) w':=by
 obtain⟨f,h3,h4⟩:=h.oka
 exact⟨⟨tail,h1,by rw[(mV ..).1];exact h2,h5⟩,h.shape,by rw[(fO ..).1];exact h.ok,h.fit.fail _ _,h.dry.fail _ _,h.fx.fail _ _,f,h3,h4.fail _ _⟩
theorem II.keeps{B b:Nat}{F:Nat→Prop}{s:Nat}{ts:List (Job×Value)}{σ:aT}{w w':World}(h:II B b F s ts σ w)(hk:Keeps Non w w'):II B b F s ts σ w':=by
 obtain⟨tail,h1,h2,h3⟩:=h.mem
 exact⟨⟨tail,h1.keeps hk,h2.non hk,h3.kp h1 (Kp.aI (B:=B) (Ts:=[]) hk) (by simp)⟩,h.shape,h.ok,h.fit,h.dry,h.fx,h.oka⟩
theorem Df(j:Job)(s:List UInt8)(p:Int)(σ:aT)(h1:j≠.jB)(h2:j≠.oP)(h3:j≠.oC):(aN j s p σ).2.x=σ.x:=by
 cases j with
 |word may act=>
  simp only[aN]
  split
  ·exact QB ..
  ·exact(mV ..).1
 |leads=>
  simp only[aN]
  split
  ·rfl
  ·exact(mV ..).1
 |name=>
  simp only[aN]
  split
  ·exact(mV ..).1
  ·split
   ·exact(mV ..).1
   ·rfl
 |keep k=>rfl
 |jB=>exact absurd rfl h1
 |oP=>exact absurd rfl h2
 |oC=>exact absurd rfl h3
theorem Tabs.ge{w w':World}{B:Nat}(h:Tabs w)(k:Keeps (GE B) w w')(hB:kV≤B):Tabs w':=
 h.below (k.below h.top fun i hi hg=>by have:B≤i:=hg;omega) (Nat.le_refl _)
theorem Tz{B b:Nat}{tail:PT}{ts:List (Job×Value)}{σ:aT}{w:World}{vr vl va:Value}{j:Job}{f:Value}{ao:Option Addr}{m cap:Nat}(H:pq B b tail (ts++[(j,f)]) σ w vr (.slice ao (m+1) cap) vl va)(hm:ts.length=m):
 pq B b tail ts σ (w.setCell ⟨b,4,none⟩ (.slice ao m cap)) vr (.slice ao m cap) vl va∧Kp B [TB] w (w.setCell ⟨b,4,none⟩ (.slice ao m cap)):=by
 have k:=H.wF 4 (.slice ao m cap)
 have b1:=H.blk.set 4 (.slice ao m cap)
 rw[(fP ..).2.2.2.2.1] at b1
 obtain⟨p1,p2,p3,p4,p5,p6⟩:=H.parts k
 refine⟨⟨b1,H.le,p1,?_,p3,p4,fun t ht=>p5 t (List.mem_append.2 (.inl ht)),p6⟩,k⟩
 rw[List.length_append,List.length_singleton,hm] at p2
 have h:=p2.take (m:=m) (by omega)
 have hl:(aW ts).length=m*2:=by rw[oU,hm]
 rw[iR,List.take_left' hl] at h
 rw[hm]
 exact h
theorem TA{rC us:List (Job×Value)}{j:Job}{f:Value}{σ σ1:aT}{s:List UInt8}{k:Nat}{p:Int}(hfx:EF σ)(aib:∃f',CZ (gY (rC++[(j,f)])) f'∧Cnt σ f')(hfit:xM (rC++[(j,f)]).length σ)(h0:σ.err=0)
 (hk8:8≤k) (hks:s.length+8≤k) (hkl:k≤σ.rest.length) (h1:σ1={σ with rest:=σ.rest.drop k,at':=σ.at'+k}) (hus:(us.map Prod.fst).reverse=(aN j s p σ1).1):
 EF (aN j s p σ1).2∧∃f',CZ (gY (rC++us)) f'∧Cnt (aN j s p σ1).2 f':=by
 obtain⟨f',h2,h3⟩:=aib
 rw[lS] at h2
 have h4:Cnt σ1 f':=by rw[h1];exact h3
 have hall:=hfit.all
 refine⟨SB j s p σ σ1 hfx (by rw[h1];simp only;omega) (by rw[h1];simp only;omega) (by rw[h1]) (by rw[h1]) (by omega) (by rw[h1];have:=hfit.path;simp only;omega) (by rw[h1];exact(h3 h0).1),?_⟩
 rw[rV,hus]
 exact V7 j (gY rC) s p σ1 f' h2 h4
theorem Xn{rC us:List (Job×Value)}{j:Job}{f:Value}{σ σ1:aT}{s:List UInt8}{k:Nat}{p:Int}(hok:OkJ (gY (rC++[(j,f)])) σ.above.length)(hfit:xM (rC++[(j,f)]).length σ)(h0:σ.err=0)
 (hk8:8≤k) (hks:s.length+8≤k) (hkl:k≤σ.rest.length) (h1:σ1={σ with rest:=σ.rest.drop k,at':=σ.at'+k}) (hus:(us.map Prod.fst).reverse=(aN j s p σ1).1):
 OkJ (gY (rC++us)) (aN j s p σ1).2.above.length∧xM (rC++us).length (aN j s p σ1).2∧(aN j s p σ1).2.Gn:=by
 rw[lS] at hok
 refine⟨?_,?_,?_⟩
 ·rw[rV,hus]
  exact V5 j (gY rC) s p σ1 (by rw[h1];exact hok)
 ·have hr:Room (rC.length+1) s.length σ1:=by
   rw[h1]
   exact Room.of (by simpa using hfit) hkl hks
  have:=V6 j s p σ1 rC.length hr
  rw[←hus] at this
  simpa [Nat.add_comm] using this
 ·exact Hl j s p σ1 (by rw[h1];exact fun h=>absurd h0 h)
theorem Xo{B b:Nat}{F:Nat→Prop}{sb:Nat}{ts:List (Job×Value)}{σ:aT}{w:World}(h:II B b F sb ts σ w)(hT:Tabs w)(hB:kV≤B):
 Calls Tryz.prog 49 #[.pointer (some ⟨b,0,none⟩)] w fun ed w'=>ed=.returned (.tuple #[])∧(∃ts',gY ts'=(run (gY ts) σ).1∧II B b F sb ts' (run (gY ts) σ).2 w')∧Keeps (GE B) w w':=by
 have H0:=Lib.hid h
 have HT:=Lib.hid hT
 obtain⟨uX,⟨vr,vt,vl,va,hp⟩,-,-⟩:=h.mem
 obtain⟨ao,cp,rfl,-,-⟩:=hp.todo.shape
 have c4:w.cell? ⟨b,4,none⟩=some (.slice ao ts.length cp):=(hp.blk.cell 4).trans (aY ..).2.2.2.2.1
 clear h hT hp
 go_enter Tryz.func49,Tryz.ntmps49
 go_wp2_with fail
 go_loopg [2] σ.rest.length (fun gk nv wr=>∃(ts':List (Job×Value)) (σ':aT),gk=σ'.rest.length∧nv=.int .i64 ts'.length∧Hid (II B b F sb ts' σ' wr)∧Hid (run (gY ts) σ=run (gY ts') σ')∧Hid (Keeps (GE B) w wr))
 case atStart=>exact⟨ts,σ,rfl,rfl,H0,rfl,Keeps.refl _ _⟩
 case round=>
  clear H0 c4
  obtain⟨ts',σ',rfl,rfl,HP,HR,HK⟩:=hrel
  rcases List.eq_nil_or_concat ts' with rfl|⟨rC,t,rfl⟩
  ·obtain⟨tail,hpa,hca,hfm⟩:=HP.out.mem
   have CA:=Lib.hid hca
   have FM:=Lib.hid hfm
   have Zh:=Lib.hid hpa
   clear hca hfm
   have hd0:decide ((0:Int)<((([]:List (Job×Value)).length:Nat):Int))=false:=by decide
   have hfit:=HP.out.fit
   cases hrs:σ'.rest with
   |nil=>
    have HE:Hid (run (gY ts) σ=([],σ')):=by show _=_;rw[HR.out];show run [] σ'=_;rw[rQ,if_pos hrs]
    have hdl:decide (0<σ'.rest.length)=false:=by rw[hrs];decide
    clear hrs
    go_wp2_with fail
    refine(Md hpa).mono ?_
    rintro e w1 ⟨rfl,rfl⟩
    rw[hdl]
    go_wp2_with fail
    go_end0
    rw[HE.out]
    exact⟨rfl,⟨[],rfl,HP.out⟩,HK.out⟩
   |cons x r=>
    have HE:Hid (run (gY ts) σ=([],σ'.fail 10 σ'.at')):=by show _=_;rw[HR.out];show run [] σ'=_;rw[rQ,if_neg (by rw[hrs];simp)]
    have hdl:decide (0<σ'.rest.length)=true:=by rw[hrs];simp
    have HA:Hid (∀n:Nat,Calls Tryz.prog 81 #[.pointer (some ⟨b,0,none⟩)] (wr.drewN n) fun ed w'=>ed=.returned (.int .i64 σ'.at')∧wr.drewN n=w'):=fun n=>Wh (hpa.keeps ((Keeps.refl _ _).drewN n))
    have HF:Hid (∀n:Nat,Calls Tryz.prog 78 #[.pointer (some ⟨b,0,none⟩),.int .i64 10,.int .i64 σ'.at'] (wr.drewN n) fun ed w'=>ed=.returned (.tuple #[])∧PA B b tail [] (σ'.fail 10 σ'.at') w'∧Kp B [TB] wr w'):=
     fun n=>(kH (hpa.keeps ((Keeps.refl _ _).drewN n)) 10 _).mono fun ed w' ⟨h1,h2,h3⟩=>⟨h1,h2,((Kp.refl _ _ _).drewN n).trans h3⟩
    clear hrs
    go_wp2_with fail
    refine(Md hpa).mono ?_
    rintro e w1 ⟨rfl,rfl⟩
    rw[hdl]
    clear hpa
    go_wp2_with fail
    go_region_with (first
     |(go_at_call 81;refine(HA.out 1).mono ?_;rintro e w1 ⟨rfl,rfl⟩)
     |(go_at_call 78;refine(HF.out 1).mono ?_;rintro e w2 ⟨rfl,h2,k2⟩))
    all_goals (
     go_wp2_with fail
     go_end0
     rw[HE.out]
     exact⟨rfl,⟨[],rfl,HP.out.fail _ _ h2 (CA.out.kp k2 (by decide) (by decide)) (FM.out.kp Zh.out k2 (by decide))⟩,HK.out.gg k2.ge⟩)
  ·rw[List.concat_eq_append] at HP HR ⊢
   obtain⟨j,f⟩:=t
   obtain⟨m,hm⟩:∃m,rC.length=m:=⟨_,rfl⟩
   have hlen:(rC++[(j,f)]).length=m+1:=by simp[hm]
   rw[hlen]
   obtain⟨tail,hp,hca,hfm⟩:=HP.out.mem
   have CA:=Lib.hid hca
   have FM:=Lib.hid hfm
   have Zh:=Lib.hid hp
   clear hca hfm
   have hfit:Fit (rC++[(j,f)]) σ':=HP.out.fit.fit
   have hall:=hfit.all
   have htd:=hfit.todo
   rw[hlen] at htd
   have aeu:j.most≤1000:=by cases j <;> simp[Job.most]
   have HA:Hid (Calls Tryz.prog 81 #[.pointer (some ⟨b,0,none⟩)] wr fun ed w'=>ed=.returned (.int .i64 σ'.at')∧wr=w'):=Wh hp
   have HN:Hid (∀n:Nat,Calls Tryz.prog 82 #[.pointer (some ⟨b,0,none⟩),.int .i64 j.most] (wr.drewN n) fun ed w'=>ed=.returned (.tuple #[.string ⟨((σ'.next j.most).1.getD []).toArray⟩,.bool (σ'.next j.most).1.isSome])∧PA B b tail (rC++[(j,f)]) (σ'.next j.most).2 w'∧Kp B [TB] wr w'):=
    fun n=>(next_any (hp.keeps ((Keeps.refl _ _).drewN n)) hfit j.most aeu).mono fun ed w' ⟨h1,h2,h3⟩=>⟨h1,h2,((Kp.refl _ _ _).drewN n).trans h3⟩
   obtain⟨vr',vt',vl',va',hq⟩:=hp
   have hsl:=hq.todo
   rw[hlen] at hsl
   obtain⟨bt,ot,ct,rfl,-,hc1,hc2,-,hcc,-⟩:=hsl.pos (by omega)
   unfold maxLen at hc2
   have c4:wr.cell? ⟨b,4,none⟩=some (.slice (some ⟨bt,ot,none⟩) (m+1) ct):=(hq.blk.cell 4).trans (aY ..).2.2.2.2.1
   have d0:wr.cell? ⟨bt,ot+m*2,none⟩=some (.int .i64 j.most):=by
    rw[hcc _ (by omega)]
    have:=(uK (rC++[(j,f)]) m (by omega)).1
    rw[this]
    simp[←hm]
   have HM:=Lib.hid hm
   have HLEN:=Lib.hid hlen
   clear hq hsl hcc hm hlen hfit
   have q0:decide ((0:Int)<(((m+1:Nat)):Int))=true:=by simp
   have q0':decide ((0:Int)<(m:Int)+1)=true:=by simp
   have q1:IntKind.i64.wrap (m:Int)=(m:Int):=IntWalk.i64_in _ (by omega)
   have q2:(0:Int)≤(m:Int):=by omega
   have q3:(m:Int)<(m:Int)+1:=by omega
   have q4:m<m+1:=by omega
   have q5:(0:Int)<(m:Int)+1:=by omega
   have q6:IntKind.i64.wrap ((m:Int)+1-1)=(m:Int):=by rw[IntWalk.i64_in _ (by omega)];omega
   go_wp2_with fail
   refine HA.out.mono ?_
   rintro e w1 ⟨rfl,rfl⟩
   go_upto_region 4 with(fail)
   obtain⟨nx,hnx⟩:∃nx,σ'.next j.most=nx:=⟨_,rfl⟩
   rw[hnx] at HN
   obtain⟨o,σ1⟩:=nx
   have Ad:=Lib.hid hnx
   clear hnx
   simp only at HN
   go_region_with (go_at_call 82;refine(HN.out 1).mono ?_;rintro e w2 ⟨rfl,h2,k2⟩)
   all_goals (
    have H2:=Lib.hid h2
    have K2:Hid (Keeps (GE B) w w2):=HK.out.gg k2.ge
    have CA2:=Lib.hid (CA.out.kp k2 (by decide) (by decide))
    have FM2:=Lib.hid (FM.out.kp Zh.out k2 (by decide))
    clear h2 k2 HN HA HK CA FM Zh c4 d0
    cases o with
    |none=>
     have hr:run (gY (rC++[(j,f)])) σ'=(gY (rC++[(j,f)]),σ1):=by rw[lS];exact run_stop Ad.out
     have HRR:Hid (run (gY ts) σ=(gY (rC++[(j,f)]),σ1)):=HR.out.trans hr
     have hpi:II B b F sb (rC++[(j,f)]) σ1 w2:=by
      rcases IC Ad.out with e|⟨e0,e⟩
      ·rw[e] at H2 ⊢;exact⟨⟨_,H2.out,CA2.out,FM2.out⟩,HP.out.shape,HP.out.ok,HP.out.fit,HP.out.dry,HP.out.fx,HP.out.oka⟩
      ·rw[e] at H2 ⊢;exact HP.out.fail _ _ H2.out CA2.out FM2.out
     have HPI:=Lib.hid hpi
     clear hpi hr
     go_wp2_with fail
     refine bodyPost_ret (results_none rfl _ _ _) rfl ?_
     rw[HRR.out]
     exact⟨rfl,⟨_,rfl,HPI.out⟩,K2.out⟩
    |some s=>
     obtain⟨he0,k,hk8,hks,hkl,hsm,hs1⟩:=IB Ad.out
     have HE0:=Lib.hid he0
     have oI:=Lib.hid hs1
     have hr:run (gY (rC++[(j,f)])) σ'=run ((aN j s σ'.at' σ1).1++gY rC) (aN j s σ'.at' σ1).2:=by
      rw[lS,oI.out]
      exact CV hk8 hkl (Ad.out.trans (by rw[oI.out]))
     obtain⟨r4,hr4⟩:∃r4,aN j s σ'.at' σ1=r4:=⟨_,rfl⟩
     rw[hr4] at hr
     have HR4:=Lib.hid hr4
     have HRR:=Lib.hid (HR.out.trans hr)
     clear hr4
     have hab:σ1.above=σ'.above:=by rw[oI.out]
     have Fp:xM (rC.length+1) σ1:=by
      have h1:=(Room.of (by simpa using HP.out.fit:xM (rC.length+1) σ') hkl hks).fit (i:=rC.length+1) (by omega)
      rw[oI.out];exact h1
     have hok1:=HP.out.ok
     rw[lS] at hok1
     have Z8:Hid (j.needs=true→1≤σ1.above.length):=by rw[hab];exact hok1.1
     obtain⟨vr2,vt2,vl2,va2,hq⟩:=H2.out
     have hsl:=hq.todo
     rw[HLEN.out] at hsl
     obtain⟨b2,o2,c2,rfl,-,hc3,hc4,-,hcc,-⟩:=hsl.pos (by omega)
     unfold maxLen at hc4
     have d4:w2.cell? ⟨b,4,none⟩=some (.slice (some ⟨b2,o2,none⟩) (m+1) c2):=(hq.blk.cell 4).trans (aY ..).2.2.2.2.1
     have d1:w2.cell? ⟨b2,o2+m*2+1,none⟩=some f:=by
      rw[Nat.add_assoc,hcc _ (by omega)]
      have:=(uK (rC++[(j,f)]) m (by rw[HLEN.out];omega)).2
      rw[this]
      simp[←HM.out]
     have g4:=hq.blk.free 4
     have Zf:dD w2 b j f:=hq.jobs (j,f) (by simp)
     have HQ:=Lib.hid hq
     have HJ:=Lib.hid Zf
     have q7:(m:Int)≤(c2:Int):=by omega
     have q8:m≤c2:=by omega
     have hnl:=Fp.nodes
     have hal:=Fp.above
     have hat:=Fp.all
     have htl:=Fp.todo
     have aev:=Lib.hid Fp.dirs
     have qg:=Lib.hid Fp
     have vg:=Lib.hid hok1
     have HAB:=Lib.hid hab
     rw[HM.out] at htl
     clear he0 hs1 hr hab hok1 hsl hcc hq Zf Fp H2
     go_upto_region 8 with(fail)
     have hst:=Tz HQ.out HM.out
     have H3:=Lib.hid hst.1
     have J3:Hid (dD _ b j f):=HJ.out.kp hst.2 (by intro T hT;simp only[List.mem_singleton] at hT;subst hT;simp)
     have K3:=Lib.hid (K2.out.gg hst.2.ge)
     have CA3':=CA2.out.kp hst.2 (by decide) (by decide)
     have hx1:σ'.x=σ1.x:=by rw[oI.out]
     rw[hx1] at CA3'
     have CA3:=Lib.hid CA3'
     have FM3:=Lib.hid ((FM2.out.kp ⟨_,_,_,_,HQ.out⟩ hst.2 (by decide)).sub)
     clear hst HQ HJ K2 d4 d1 g4 CA2 CA3' hx1 FM2
     generalize World.setCell w2 _ _=w3 at *
     have lQ:Hid (PA B b tail rC σ1 w3):=⟨_,_,_,_,H3.out⟩
     have HT3:Hid (Tabs w3):=HT.out.ge K3.out hB
     clear H3
     cases j
     case' word may act=>
      obtain⟨bm,bp,bt3,vm,rfl,j1,j2,j3,j4⟩:=J3.out
      have HC:=Lib.hid (Tj lQ.out may act ⟨s.toArray⟩ σ'.at' bm bp bt3 vm j1 j2 j3 j4 (by omega) (by omega) (by have:=HM.out;omega) Z8.out)
      clear j1 j2 j3 j4
      go_wp2_with fail
      refine HC.out.mono ?_
      rintro e w4 hd'
      have hd:Fe B b rC r4 F sb w3 e w4:=by rw[←HR4.out];exact hd'.x lQ.out CA3.out FM3.out (Df _ _ _ _ (by simp) (by simp) (by simp))
      clear hd'
     case' leads=>
      obtain rfl:=J3.out
      have HC:=Lib.hid (SV lQ.out ⟨s.toArray⟩ (by show s.toArray.size≤_;simp[maxLen];omega) σ'.at' (by omega))
      go_wp2_with fail
      refine HC.out.mono ?_
      rintro e w4 ⟨e1,h4,k4⟩
      have hd:Fe B b rC r4 F sb w3 e w4:=by rw[←HR4.out];exact(Did.plain e1 rfl h4 k4 (by simp)).x lQ.out CA3.out FM3.out (Df _ _ _ _ (by simp) (by simp) (by simp))
      clear e1 h4 k4
     case' name=>
      obtain rfl:=J3.out
      have hnp:=Z8.out rfl
      obtain⟨ab,o,hao⟩:∃ab o,σ1.above=ab++[o]:=by
       rcases List.eq_nil_or_concat σ1.above with e|⟨l,o,e⟩
       ·rw[e] at hnp;simp at hnp
       ·exact⟨l,o,by rw[e,List.concat_eq_append]⟩
      obtain⟨op,ol⟩:=o
      have hol:=(aev.out (op,ol) (by rw[hao];simp)).1
      have habl:ab.length≤1099511627776:=by rw[hao] at hal;simp at hal;omega
      have HC:=Lib.hid (Tc lQ.out HT3.out ⟨s.toArray⟩ (by show s.toArray.size≤_;simp;simp[Job.most] at hsm;omega) σ'.at' ab op ol hao habl (by simp only at hol;omega))
      clear hao hol habl hnp
      go_wp2_with fail
      refine HC.out.mono ?_
      rintro e w4 ⟨e1,h4,k4⟩
      have hd:Fe B b rC r4 F sb w3 e w4:=by rw[←HR4.out];exact(Did.plain e1 rfl h4 k4 (by simp)).x lQ.out CA3.out FM3.out (Df _ _ _ _ (by simp) (by simp) (by simp))
      clear e1 h4 k4
     case' keep kd=>
      obtain⟨bp,bk,rfl,j1,j2⟩:=J3.out
      have HC:=Lib.hid (keep_any lQ.out ⟨s.toArray⟩ σ'.at' kd bp bk j1 j2 (by omega))
      clear j1 j2
      go_wp2_with fail
      refine HC.out.mono ?_
      rintro e w4 hd'
      have hd:Fe B b rC r4 F sb w3 e w4:=by rw[←HR4.out];exact hd'.x lQ.out CA3.out FM3.out (Df _ _ _ _ (by simp) (by simp) (by simp))
      clear hd'
     case' jB=>
      obtain rfl:=J3.out
      have HC:=Lib.hid (Tq lQ.out CA3.out s (by simp[Job.most] at hsm;omega) σ'.at' (by have:=HM.out;omega) (by
       have h1:=HP.out.shape
       rw[lS] at h1
       intro t ht e
       have h2:=zL (show gY rC=[] from h1) t ht
       simp at h2))
      unfold sv at HC
      go_wp2_with fail
      refine HC.out.mono ?_
      rintro e w4 hd'
      have hd:Fe B b rC r4 F sb w3 e w4:=by rw[←HR4.out];exact hd'
      clear hd'
     case' oP=>
      obtain rfl:=J3.out
      have hx2:σ1.x=σ'.x:=by rw[oI.out]
      have hr1:σ1.x.refs.length≤549755813888:=by
       have h1:=HP.out.fx.refs
       rw[hx2]
       omega
      have hr2:∀r∈σ1.x.refs,r.length≤549755813888:=by rw[hx2];exact HP.out.fx.rsz
      have hr3:σ1.x.name.length≤549755813888:=by rw[hx2];exact HP.out.fx.name
      have hr4:∀t∈rC,t.1=fC:=by
       have h1:=HP.out.shape
       rw[lS] at h1
       intro t ht
       simpa using zL (show gY rC=[fC] from h1) t ht
      have HC:=Lib.hid (Xa lQ.out CA3.out s (by simp[Job.most] at hsm;omega) σ'.at' hr1 hr2 hr3 hr4 FM3.out)
      clear hx2 hr1 hr2 hr3 hr4
      unfold sv at HC
      go_wp2_with fail
      refine HC.out.mono ?_
      rintro e w4 hd'
      have hd:Fe B b rC r4 F sb w3 e w4:=by rw[←HR4.out];exact hd'
      clear hd'
     case' oC=>
      obtain rfl:=J3.out
      have aew:EF σ1:=by
       have h1:=HP.out.fx
       rw[oI.out]
       exact⟨h1.nsz,h1.name,Nat.le_trans h1.refs (Nat.le_add_right _ _),h1.rsz,Nat.le_trans h1.came (Nat.le_add_right _ _),Nat.le_trans h1.order (Nat.le_add_right _ _),h1.osz,h1.fit,h1.once⟩
      have h30:σ1.nodes.length≤30:=by
       obtain⟨f0,-,hc0⟩:=HP.out.oka
       rw[oI.out]
       exact(hc0 HE0.out).1
      have HC:=Lib.hid (Xi lQ.out CA3.out s (by simp[Job.most] at hsm;omega) σ'.at' aew h30 (by omega) (by
       have h1:=HP.out.shape
       rw[lS] at h1
       intro t ht
       simpa using zL (show gY rC=[gU] from h1) t ht) FM3.out)
      clear aew h30
      unfold sv at HC
      go_wp2_with fail
      refine HC.out.mono ?_
      rintro e w4 hd'
      have hd:Fe B b rC r4 F sb w3 e w4:=by rw[←HR4.out];exact hd'
      clear hd'
     all_goals (
      obtain rfl:=hd.1
      obtain⟨us,tail4,hus,aex,aey,aez⟩:=hd.2.1
      have K4:Hid (Keeps (GE B) w w4):=K3.out.gg hd.2.2
      have hstep:=Xn (us:=us) (p:=σ'.at') HP.out.ok HP.out.fit HE0.out hk8 hks hkl oI.out (by rw[HR4.out];exact hus)
      rw[HR4.out] at hstep
      have Jz:=TA (us:=us) (p:=σ'.at') HP.out.fx HP.out.oka HP.out.fit HE0.out hk8 hks hkl oI.out (by rw[HR4.out];exact hus)
      rw[HR4.out] at Jz
      have hpi:II B b F sb (rC++us) r4.2 w4:=⟨⟨tail4,aex,aey,aez⟩,by
       have h1:=HP.out.shape
       rw[lS] at h1
       have h2:=Xm _ _ s σ'.at' σ1 h1
       rw[HR4.out] at h2
       rw[rV,hus]
       exact h2,hstep.1,hstep.2.1,hstep.2.2,Jz.1,Jz.2⟩
      have hrl:r4.2.rest.length<σ'.rest.length:=by
       rw[←HR4.out]
       refine Nat.lt_of_le_of_lt (qX _ s σ'.at' σ1) ?_
       rw[oI.out]
       simp only[List.length_drop]
       omega
      have aif:Hid (run (gY ts) σ=run (gY (rC++us)) r4.2):=by
       show _=_
       rw[HRR.out,rV,hus]
      have HPI:=Lib.hid hpi
      obtain⟨vr4,vt4,vl4,va4,hq4⟩:=aex
      obtain⟨a4,c4,rfl,-,-⟩:=hq4.todo.shape
      have d4:w4.cell? ⟨b,4,none⟩=some (.slice a4 (rC++us).length c4):=(hq4.blk.cell 4).trans (aY ..).2.2.2.2.1
      clear hd hq4 hus hstep Jz hpi aey aez HC
      go_wp2_with fail
      go_roundg (r4.2.rest.length))
     all_goals first
      |(case measure=>exact hrl)
      |(case rel=>exact⟨rC++us,r4.2,rfl,by rw[List.length_append,Int.natCast_add],HPI,aif,K4⟩))
end Go.Proofs.YtdkogijdfgfpeaaGreatDoor
namespace Go.Proofs.YtdkogijdfgfpeaaGreatDoor
open Go Go.RowKit Go.MapKept Go.ChangeShapes Go.WideShapes Go.ChangeMaps
theorem Nh:∀(f:Nat) (js:List Job) (σ:aT),(vC f js σ).2.at'+(vC f js σ).2.rest.length≤σ.at'+σ.rest.length
 |0,_,_=>Nat.le_refl _
 |f+1,[],σ=>by
  simp only[vC]
  split
  ·exact Nat.le_refl _
  ·have:=fO σ 10 σ.at';omega
 |f+1,j :: js,σ=>by
  simp only[vC]
  cases hn:σ.next j.most with
  |mk o σ1=>
   cases o with
   |none=>
    simp only
    rcases IC hn with e|⟨e0,e⟩
    ·rw[e];exact Nat.le_refl _
    ·rw[e];have:=fO σ e0 σ.at';omega
   |some s=>
    simp only
    obtain⟨-,k,h1,h2,h3,h4,h5⟩:=IB hn
    have:=Nh f ((aN j s σ.at' σ1).1++js) (aN j s σ.at' σ1).2
    have h6:=qX j s σ.at' σ1
    have h7:=L9 j s σ.at' σ1
    have h8:σ1.at'+σ1.rest.length=σ.at'+σ.rest.length:=by rw[h5];simp only[List.length_drop];omega
    omega
theorem Zi(js:List Job)(σ:aT):(run js σ).2.at'+(run js σ).2.rest.length≤σ.at'+σ.rest.length:=Nh _ js σ
theorem Nj(σ:aT)(t:List UInt8):(σ.feed t).at'+(σ.feed t).rest.length≤σ.at'+σ.rest.length+t.length:=by
 unfold aT.feed;split
 ·simp only[List.length_append];omega
 ·omega
theorem II.feed{B b:Nat}{F:Nat→Prop}{s:Nat}{ts:List (Job×Value)}{σ:aT}{w w':World}(h:II B b F s ts σ w)(t:List UInt8)(hs:σ.at'+σ.rest.length+t.length≤549755813888){tail:PT}(hp:PA B b tail ts (σ.feed t) w')(hc:vG w' B tail σ.x F s)(hf:pK w' tail.cells ts):II B b F s ts (σ.feed t) w':=by
 have hsum:=Nj σ t
 have e:(σ.feed t).above=σ.above∧(σ.feed t).nodes=σ.nodes∧(σ.feed t).path=σ.path∧(σ.feed t).at'=σ.at'∧(σ.feed t).x=σ.x:=by unfold aT.feed;split <;> exact⟨rfl,rfl,rfl,rfl,rfl⟩
 obtain⟨e1,e2,e3,e4,e5⟩:=e
 refine⟨⟨tail,hp,by rw[e5];exact hc,hf⟩,h.shape,by rw[e1];exact h.ok,?_,h.dry.feed t,?_,?_⟩
 ·obtain⟨h1,h2,h3,h4,h5,h6⟩:=h.fit
  exact⟨by omega,by rw[e4];exact h2,by rw[e2,e4];exact h3,by rw[e1,e4];exact h4,by rw[e3,e4];exact h5,fun o ho=>by rw[e4];exact h6 o (by rwa [e1] at ho)⟩
 ·obtain⟨h1,h2,h3,h4,h5,h6,h7,h8,h9⟩:=h.fx
  exact⟨by rw[e2];exact h1,by rw[e5];exact h2,by rw[e5,e4];exact h3,by rw[e5];exact h4,by rw[e5,e4];exact h5,by rw[e5,e4];exact h6,by rw[e5];exact h7,by rw[e5];exact h8,by rw[e5];exact h9⟩
 ·obtain⟨f,h1,h2⟩:=h.oka
  refine⟨f,h1,fun h0=>?_⟩
  rw[e2]
  refine h2 ?_
  unfold aT.feed at h0
  split at h0
  ·assumption
  ·exact h0
theorem Nk{B b:Nat}{tail:PT}{ts:List (Job×Value)}{σ:aT}{w:World}(h:PA B b tail ts σ w)(hfit:Fit ts σ):
 Calls Tryz.prog 50 #[.pointer (some ⟨b,0,none⟩)] w fun ed w'=>ed=.returned (.tuple #[.int .i64 (finish (gY ts,σ)).err,.int .i64 (finish (gY ts,σ)).bad])∧PA B b tail ts (finish (gY ts,σ)) w'∧Kp B [TB] w w':=by
 have H:=Lib.hid h
 have qg:=Lib.hid hfit
 obtain⟨vr,vt,vl,va,hp⟩:=h
 obtain⟨ao,cp,rfl,-,-⟩:=hp.todo.shape
 have c4:w.cell? ⟨b,4,none⟩=some (.slice ao ts.length cp):=(hp.blk.cell 4).trans (aY ..).2.2.2.2.1
 clear hp hfit
 by_cases ht:ts.length=0
 ·have hd:decide ((0:Int)<(ts.length:Int))=false:=decide_eq_false (by omega)
  have hd2:decide (0<ts.length)=false:=decide_eq_false (by omega)
  have HF:Hid (finish (gY ts,σ)=σ):=by
   show _=_
   rw[finish,if_pos (List.eq_nil_of_length_eq_zero (by rw[wJ];exact ht))]
  clear ht
  go_enter Tryz.func50,Tryz.ntmps50
  go_wp2_with fail
  refine(QC H.out).mono ?_
  rintro e w1 ⟨rfl,hk⟩
  have H1:=Lib.hid (H.out.keeps hk)
  have K1:Hid (Kp B [TB] w w1):=Kp.aI hk
  clear hk
  go_wp2_with fail
  go_ret2
  rw[HF.out]
  exact⟨rfl,H1.out,K1.out⟩
 ·have hd:decide ((0:Int)<(ts.length:Int))=true:=decide_eq_true (by omega)
  have hd2:decide (0<ts.length)=true:=decide_eq_true (by omega)
  have HF:Hid (finish (gY ts,σ)=σ.fail 2 ((σ.at':Int)+(σ.rest.length:Int))):=by
   show _=_
   rw[finish,if_neg]
   intro e
   have:=wJ ts
   rw[show gY ts=[] from e] at this
   exact ht this.symm
  clear ht
  go_enter Tryz.func50,Tryz.ntmps50
  go_wp2_with fail
  refine(Y1 H.out qg.out).mono ?_
  rintro e w1 ⟨rfl,h1,k1⟩
  have H1:=Lib.hid h1
  have K1:=Lib.hid k1
  clear h1 k1
  go_wp2_with fail
  refine(QC H1.out).mono ?_
  rintro e w2 ⟨rfl,hk⟩
  have H2:=Lib.hid (H1.out.keeps hk)
  have K2:Hid (Kp B [TB] w w2):=K1.out.trans (Kp.aI hk)
  clear hk
  go_wp2_with fail
  go_ret2
  rw[HF.out]
  exact⟨rfl,H2.out,K2.out⟩
theorem aU.wide{F F':Nat→Prop}{w:World}{s:Nat}{L:aH}(h:aU w F s L)(hf:∀k,F k→F' k)(htop:∀k,F' k→kV≤k)(hlt:∀k,F' k→k<w.heap.size):aU w F' s L:=by
 obtain⟨mb,m,h1,h2,h3,h4,h5,h6⟩:=h.map
 exact⟨htop,hlt,hf _ h.own,h.ok,h.fit,mb,m,hf _ h1,h2,h3,h4,h5,fun e he=>by
  obtain⟨p,hp,hE⟩:=h6 e he
  exact⟨p,hp,hE.wide hf⟩⟩
theorem aU.aii{F:Nat→Prop}{w w9:World}{s sm p:Nat}{L:aH}{m:bY}{e:dI}(hs:aU w F s L)(hF:F sm)(hsb:aS w s #[.map (some sm)] TS)(hm:MapAt w sm m)(hlen:m.length=L.length)(h5:∀x∈m,∃e∈L,e.path=x.1)(h6:∀e∈L,∃p,getM m e.path=some (pv p)∧lq w F p e)
 (hE:lq w F p e) (hfn:aA L e.path=none) (YE:MapAt w9 sm (jJ m e.path (pv p))) (hk9:Keeps (One sm) w w9) (hok:bK (ou L e)) (hfit:mM e):aU w9 F s (ou L e):=by
 have hgn:getM m e.path=none:=getM_none.2 fun x hx e2=>by
  obtain⟨e',he',hex⟩:=h5 x hx
  exact gB.1 hfn e' he' (hex.trans e2)
 have hp:jJ m e.path (pv p)=m++[(e.path,pv p)]:=by rw[jJ,hgn];rfl
 rw[hp] at YE
 have hnd:=YE.nodup
 have hne:∀b c T fr,w.heap[b]? =some (.cells c T fr)→¬One sm b:=fun b c T fr hc e2=>hm.eH hc e2
 refine⟨hs.top,fun k hk=>Nat.lt_of_lt_of_le (hs.lt k hk) hk9.size,hs.own,hok,fun x hx=>?_,sm,m++[(e.path,pv p)],hF,hsb.keeps hk9 (hne s _ _ _ hsb),YE,?_,fun x hx=>?_,fun x hx=>?_⟩
 ·rcases gG.1 hx with rfl|hx
  ·exact hfit
  ·exact hs.fit x hx
 ·rw[ni,List.length_append,hlen];rfl
 ·rcases List.mem_append.1 hx with hx|hx
  ·obtain⟨e',he',hex⟩:=h5 x hx
   exact⟨e',gG.2 (.inr he'),hex⟩
  ·obtain rfl:=List.mem_singleton.1 hx
   exact⟨e,gG.2 (.inl rfl),rfl⟩
 ·rcases gG.1 hx with rfl|hx
  ·exact⟨p,(jE hnd).2 (List.mem_append.2 (.inr (List.mem_singleton.2 rfl))),hE.keeps hk9 fun b c T fr _ hc=>hne b c T fr hc⟩
  ·obtain⟨q,hq,hqe⟩:=h6 x hx
   exact⟨q,(jE hnd).2 (List.mem_append.2 (.inl ((jE hm.nodup).1 hq))),hqe.keeps hk9 fun b c T fr _ hc=>hne b c T fr hc⟩
def gQ(s mb:Nat):Array Value:=eF (.slice none 0 0) 0 0 0 (.slice none 0 0) (.slice none 0 0) (.slice none 0 0) [] [pv s,.map (some mb),.slice none 0 0,sv [],.slice none 0 0]
def uX(s mb:Nat):PT:=⟨[pv s,.map (some mb),.slice none 0 0,sv [],.slice none 0 0],[]⟩
theorem TD{w:World}{F:Nat→Prop}{s:Nat}{has:aH}(h:aU w F s has):
 II w.heap.size (w.heap.size+1) F s [] (jc has) ((w.alloc (.map #[] 0)).alloc (.cells (gQ s w.heap.size) TB))∧PA w.heap.size (w.heap.size+1) (uX s w.heap.size) [] (jc has) ((w.alloc (.map #[] 0)).alloc (.cells (gQ s w.heap.size) TB))∧vG ((w.alloc (.map #[] 0)).alloc (.cells (gQ s w.heap.size) TB)) w.heap.size (uX s w.heap.size) (jG has) F s:=by
 have hk:Keeps Non w ((w.alloc (.map #[] 0)).alloc (.cells (gQ s w.heap.size) TB)):=((Keeps.refl _ _).alloc _).alloc _
 have hb:aS ((w.alloc (.map #[] 0)).alloc (.cells (gQ s w.heap.size) TB)) (w.heap.size+1) (gQ s w.heap.size) TB:=by
  have:=aS.new (w.alloc (.map #[] 0)) (gQ s w.heap.size) TB
  simpa using this
 have hm:MapAt ((w.alloc (.map #[] 0)).alloc (.cells (gQ s w.heap.size) TB)) w.heap.size []:=(MapAt.made w).keeps ((Keeps.refl Non _).alloc _) (fun h=>h)
 have hpa:PA w.heap.size (w.heap.size+1) (uX s w.heap.size) [] (jc has) ((w.alloc (.map #[] 0)).alloc (.cells (gQ s w.heap.size) TB)):=
  ⟨_,_,_,_,hb,by omega,Sl.nil _ _ _ _,Sl.nil _ _ _ _,Sl.nil _ _ _ _,Sl.nil _ _ _ _,(by intro t ht;cases ht),(by intro t ht;cases ht)⟩
 have hca:vG ((w.alloc (.map #[] 0)).alloc (.cells (gQ s w.heap.size) TB)) w.heap.size (uX s w.heap.size) (jG has) F s:=
  ⟨h.non hk,h.lt,w.heap.size,_,_,[],rfl,⟨Nat.le_refl _,hm,List.Perm.nil,(by intro e he;cases he),Sl.nil _ _ _ _,Sl.nil _ _ _ _,(by intro k hk;cases hk),fun _=>rfl⟩⟩
 refine⟨⟨⟨uX s w.heap.size,hpa,hca,?_⟩,trivial,trivial,?_,fun h=>absurd rfl h,?_,true,trivial,?_⟩,hpa,hca⟩
 ·exact fun v=>⟨fun _ t ht=>(by cases ht),fun _ t ht=>(by cases ht)⟩
 ·exact⟨by show(0:Nat)≤_;omega,by show(0:Nat)≤_;omega,Nat.le_refl _,Nat.le_refl _,Nat.le_refl _,by intro o ho;cases ho⟩
 ·exact⟨(by intro n hn;cases hn),Nat.zero_le _,Nat.le_refl _,(by intro n hn;cases hn),Nat.le_refl _,Nat.le_refl _,(by intro n hn;cases hn),(by intro n hn;cases hn),List.Pairwise.nil⟩
 ·exact fun _=>⟨Nat.zero_le _,fun _=>Nat.zero_le _⟩
theorem Nl{w:World}{B b:Nat}{F:Nat→Prop}{s:Nat}{has:aH}{w':World}(h:II B b F s [] (jc has) w){mb:Nat}
 {ts:List (Job×Value)} (ht:gY ts=iH) (h2:PA B b (uX s mb) ts (jc has) w') (hc2:vG w' B (uX s mb) (jG has) F s):II B b F s ts (jc has) w':=by
 have hl:ts.length=2:=by rw[←wJ,ht];rfl
 refine⟨⟨uX s mb,h2,hc2,fun v=>⟨fun hv t htt he=>?_,fun hv t htt he=>?_⟩⟩,?_,?_,?_,h.dry,h.fx,true,?_,fun _=>⟨Nat.zero_le _,fun _=>Nat.zero_le _⟩⟩
 ·have:=zL ht t htt
  rw[he] at this
  exact absurd this (by decide)
 ·have hve:v=.slice none 0 0:=by simpa [uX] using hv.symm
  rw[hve]
  intro bm bp bt vm _ _
  exact tN _ _ _ _
 ·rw[ht];exact rfl
 ·rw[ht];exact⟨(fun e=>nomatch e),(fun e=>nomatch e),trivial⟩
 ·obtain⟨g1,g2,g3,g4,g5,g6⟩:=h.fit
  exact⟨g1,by rw[hl];show 2≤0+4;omega,g3,g4,g5,g6⟩
 ·rw[ht];exact⟨(fun e=>nomatch e),(fun e=>nomatch e),trivial⟩
end Go.Proofs.YtdkogijdfgfpeaaGreatDoor

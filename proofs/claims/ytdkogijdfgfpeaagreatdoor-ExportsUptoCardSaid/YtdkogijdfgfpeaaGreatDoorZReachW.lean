/- (*Store).Closure: reach. -/
import Derived.Test.YtdkogijdfgfpeaaGreatDoorZClosP
import Derived.Test.YtdkogijdfgfpeaaGreatDoorZGet
import Derived.Test.YtdkogijdfgfpeaaGreatDoorZMap
import Derived.Handy
import Derived.Test.YtdkogijdfgfpeaaGreatDoorZPackw
set_option linter.unusedVariables false
namespace Go.Proofs.YtdkogijdfgfpeaaGreatDoor
open Go Go.RowKit
set_option maxHeartbeats 3200000
set_option maxRecDepth 100000
abbrev TN:TypeId:=76
def rf(cN cS cR:Nat):Value:=.func (.func 35) #[] #[pv cN,pv cS,pv cR]
structure Env(w:World)(F:Nat→Prop)(s cN cS cR nb:Nat):Prop where
 n:aS w cN #[.map (some nb)] TN
 s:aS w cS #[pv s] 34
 r:aS w cR #[rf cN cS cR] 77
 far:¬F nb
theorem Env.keeps{S F:Nat→Prop}{w w':World}{s cN cS cR nb:Nat}(h:Env w F s cN cS cR nb)(k:Keeps S w w')(hs:∀b c T fr,w.heap[b]? =some (.cells c T fr)→b=cN∨b=cS∨b=cR→¬S b):Env w' F s cN cS cR nb:=
 ⟨h.n.keeps k (hs cN _ _ _ h.n (.inl rfl)),h.s.keeps k (hs cS _ _ _ h.s (.inr (.inl rfl))),h.r.keeps k (hs cR _ _ _ h.r (.inr (.inr rfl))),h.far⟩
theorem Env.one{F:Nat→Prop}{w w':World}{s cN cS cR nb:Nat}{N:bY}(h:Env w F s cN cS cR nb)(hm:MapAt w nb N)(k:Keeps (One nb) w w'):Env w' F s cN cS cR nb:=
 h.keeps k fun b c T fr hc _ e=>hm.eH hc e
theorem aU.ent{F:Nat→Prop}{w:World}{s:Nat}{L:aH}(h:aU w F s L){e:dI}(he:e∈L):∃mb m q vt vr,aS w s #[.map (some mb)] TS∧MapAt w mb m∧getM m e.path=some (pv q)∧aS w q #[sv (aJ e.tree),vt,vr] TE∧Rd w 1 vr e.refs.length (bf e.refs)∧F q∧F mb:=by
 obtain⟨mb,m,h1,h2,h3,h4,h5,h6⟩:=h.map
 obtain⟨q,hq,ho,vt,vr,g1,g2,g3,g4,g5⟩:=h6 e he
 exact⟨mb,m,q,vt,vr,h2,h3,hq,g1,g3,ho,h1⟩
theorem VD{p:List UInt8}(h:fF p=true):p.length≤1099511627776:=by
 unfold fF at h
 simp only[Bool.and_eq_true,decide_eq_true_eq] at h
 omega
theorem aU.len{F:Nat→Prop}{w:World}{s:Nat}{L:aH}(h:aU w F s L){e:dI}(he:e∈L):e.path.length≤1099511627776:=VD (h.ok.good e he).1
theorem Ry{F:Nat→Prop}{s cN cS cR nb:Nat}{L:aH}:∀(n:Nat) (e:dI) (w:World) (N:bY),yg L N≤n→e∈L→aU w F s L→Env w F s cN cS cR nb→MapAt w nb N→
 Calls Tryz.prog 35 #[sv e.path,pv cN,pv cS,pv cR] w fun ed w'=>ed=.returned (.tuple #[])∧∃N',MapAt w' nb N'∧Grew L e.path N N'∧Keeps (One nb) w w':=by
 intro n
 induction n with
 |zero=>
  intro e w N hfr he hS hE hM
  have hin:∃v,getM N e.path=some v:=by
   cases hg:getM N e.path with
   |some v=>exact⟨v,rfl⟩
   |none=>
    have:=KQ (N':=jJ N e.path (zY 0)) (fun k v hk=>by unfold tZ;rw[fG];split <;> exact⟨_,by first|rfl|exact hk⟩) he hg (by unfold tZ;rw[fG,if_pos rfl];exact⟨_,rfl⟩)
    omega
  obtain⟨v,hv⟩:=hin
  have hnl:=hS.len he
  have cn:=hE.n.cell 0
  simp only[List.getElem?_toArray,List.getElem?_cons_zero] at cn
  have HM:=Lib.hid hM
  have iG:Hid ((getM N e.path).getD (.int .i64 0)=v∧(getM N e.path).isSome=true):=by show _∧_;rw[hv];exact⟨rfl,rfl⟩
  have oG:Hid (tZ N e.path):=⟨v,hv⟩
  have DL:Hid (Tryz.prog.underlying 76=some (.map 9 3)):=Tryz.underlying76
  clear hv hM hS hE hfr
  unfold pv sv
  go_enter Tryz.func35,Tryz.ntmps35
  go_wp2_with (first|(at_lookup;refine Ap _ rfl _ _ _ rfl _ _ DL.out Tryz.underlying9 (.int .i64 0) (Tryz.zeroValue3 _) nb N rfl HM.out e.path rfl hnl ?_;rw[iG.out.1,iG.out.2]))
  refine bodyPost_ret (results_none rfl _ _ _) rfl ?_
  exact⟨rfl,N,HM.out,Grew.same oG.out,Keeps.refl _ _⟩
 |succ n ih=>
  intro e w N hfr he hS hE hM
  have hnl:=hS.len he
  have cn:=hE.n.cell 0
  have cs:=hE.s.cell 0
  have cr:=hE.r.cell 0
  simp only[List.getElem?_toArray,List.getElem?_cons_zero] at cn cs cr
  have HS:=Lib.hid hS
  have HE:=Lib.hid hE
  have HM:=Lib.hid hM
  have HFR:=Lib.hid hfr
  have GI:=Lib.hid he
  have IH:=Lib.hid ih
  have DL:Hid (Tryz.prog.underlying 76=some (.map 9 3)):=Tryz.underlying76
  clear hM hS hE hfr he ih
  cases hg:getM N e.path with
  |some v=>
   have iG:Hid ((getM N e.path).getD (.int .i64 0)=v∧(getM N e.path).isSome=true):=by show _∧_;rw[hg];exact⟨rfl,rfl⟩
   have oG:Hid (tZ N e.path):=⟨v,hg⟩
   clear hg cs cr
   unfold pv sv
   go_enter Tryz.func35,Tryz.ntmps35
   go_wp2_with (first|(at_lookup;refine Ap _ rfl _ _ _ rfl _ _ DL.out Tryz.underlying9 (.int .i64 0) (Tryz.zeroValue3 _) nb N rfl HM.out e.path rfl hnl ?_;rw[iG.out.1,iG.out.2]))
   refine bodyPost_ret (results_none rfl _ _ _) rfl ?_
   exact⟨rfl,N,HM.out,Grew.same oG.out,Keeps.refl _ _⟩
  |none=>
   have iG:Hid ((getM N e.path).getD (.int .i64 0)=.int .i64 0∧(getM N e.path).isSome=false):=by show _∧_;rw[hg];exact⟨rfl,rfl⟩
   have HG:=Lib.hid hg
   clear hg cs cr
   unfold pv sv
   go_enter Tryz.func35,Tryz.ntmps35
   go_upto_region 2 with(first|(at_lookup;refine Ap _ rfl _ _ _ rfl _ _ DL.out Tryz.underlying9 (.int .i64 0) (Tryz.zeroValue3 _) nb N rfl HM.out e.path rfl hnl ?_;rw[iG.out.1,iG.out.2]))
   go_upto_region 3 with(first|(at_mapUpdate;refine Aq _ rfl _ _ _ _ rfl _ _ DL.out Tryz.underlying9 nb N rfl HM.out e.path rfl hnl (.int .i64 0) rfl ?_;intro w1 hm1 hk1 hs1))
   have ZI:Hid (MapAt w1 nb (jJ N e.path (zY 0))):=hm1
   have iy:=Lib.hid hk1
   have ag5:Hid (yg L (jJ N e.path (zY 0))≤n):=by
    have:=KQ (N':=jJ N e.path (zY 0)) (fun k v hk=>by unfold tZ;rw[fG];split <;> exact⟨_,by first|rfl|exact hk⟩) GI.out HG.out (by unfold tZ;rw[fG,if_pos rfl];exact⟨_,rfl⟩)
    have h2:=HFR.out
    show _≤_
    omega
   have oI:Hid (aU w1 F s L):=HS.out.keeps hk1 fun b hb e2=>HE.out.far (by cases e2;exact hb)
   have UJ:Hid (Env w1 F s cN cS cR nb):=HE.out.one HM.out hk1
   have cn1:=UJ.out.n.cell 0
   have cs1:=UJ.out.s.cell 0
   have cr1:=UJ.out.r.cell 0
   obtain⟨mb,m,q,vt,vr,g1,g2,g3,g4,g5,g6,g7⟩:=oI.out.ent GI.out
   have ds1:=g1.cell 0
   have dq1:=g4.cell 2
   simp only[List.getElem?_toArray,List.getElem?_cons_zero,List.getElem?_cons_succ] at cn1 cs1 cr1 ds1 dq1
   obtain⟨va,vc,rfl,hc1,hc2⟩:=g5.shape
   have KG:=Lib.hid g2
   have HVR:=Lib.hid g5
   have G9:Hid ((getM m e.path).getD (.pointer none)=.pointer (some ⟨q,0,none⟩)):=by show _=_;rw[g3];rfl
   have yc:Hid (Tryz.prog.underlying 82=some (.map 9 81)):=Tryz.underlying82
   unfold maxLen at hc2
   unfold pv at cs1
   clear hm1 hk1 hs1 g1 g2 g3 g4 g5 g6 g7 cn HFR
   go_wp2_with (first|(at_lookup;refine eG _ rfl _ _ _ rfl _ _ yc.out Tryz.underlying9 (.pointer none) (Tryz.zeroValue81 _) mb m rfl KG.out e.path rfl hnl ?_;rw[G9.out]))
   have acZ:Hid (∀r∈e.refs,r.length≤1099511627776∧∃x∈L,x.path=r):=fun r hr=>⟨(oI.out.fit e GI.out).ref r hr,dH.1 (oI.out.ok.has e GI.out r hr)⟩
   have HRL:Hid (e.refs.length≤1099511627776):=(oI.out.fit e GI.out).refs
   clear ds1 dq1 cs1 cn1 cr1 G9 iG
   go_loopg [28] e.refs.length (fun gk iv wr=>∃(k:Nat) (N2:bY),gk=e.refs.length-k∧k≤e.refs.length∧iv=.int .i64 k∧Hid (MapAt wr nb N2)∧Hid (Going L e N N2 k)∧Hid (Keeps (One nb) w1 wr))
   case atStart=>exact⟨0,_,rfl,Nat.zero_le _,rfl,ZI,Going.start HG.out,Keeps.refl _ _⟩
   case round=>
    obtain⟨k,N2,rfl,hk,rfl,yQ,Qa,iP⟩:=hrel
    by_cases hlt:k<e.refs.length
    ·have HS2:Hid (aU wr F s L):=oI.out.keeps iP.out fun b hb e2=>UJ.out.far (by cases e2;exact hb)
     have HE2:Hid (Env wr F s cN cS cR nb):=UJ.out.one ZI.out iP.out
     have QU:Hid (Rd wr 1 (.slice va e.refs.length vc) e.refs.length (bf e.refs)):=HVR.out.Bv iP.out fun b c T fr _ hc e2=>ZI.out.eH hc e2
     have cn2:=HE2.out.n.cell 0
     have cs2:=HE2.out.s.cell 0
     have cr2:=HE2.out.r.cell 0
     simp only[List.getElem?_toArray,List.getElem?_cons_zero] at cn2 cs2 cr2
     unfold rf at cr2
     obtain⟨b,off,cp,hsh,-,-,-,hbl,hc,-⟩:=QU.out.pos (by omega)
     cases hsh
     have d0:wr.cell? ⟨b,off+k,none⟩=some (sv e.refs[k]):=(hc k (by omega)).trans (dJ e.refs k hlt)
     have HX:Hid (e.refs[k]? =some e.refs[k]∧e.refs[k]∈e.refs):=⟨List.getElem?_eq_getElem hlt,List.getElem_mem _⟩
     clear hc
     generalize e.refs[k]=x at *
     unfold sv at d0
     by_cases hx:x=e.path
     ·have hb:(!x==e.path)=false:=by rw[hx];simp
      have Ud:=Lib.hid hx
      clear hx
      go_wp2_with fail
      go_roundg (e.refs.length-(k+1))
      case measure=>omega
      case rel=>exact⟨k+1,N2,rfl,by omega,by go_num,yQ,Qa.out.self (by rw[HX.out.1,Ud.out]),iP⟩
     ·have hb:(!x==e.path)=true:=by simpa using hx
      have Ud:Hid (x≠e.path):=hx
      clear hx
      obtain⟨hxl,e2,he2,rfl⟩:=acZ.out x HX.out.2
      obtain⟨c,hcd⟩:∃c,c=((e.refs.take k).filter fun r=>r !=e.path).length:=⟨_,rfl⟩
      have hcl:c≤e.refs.length:=by
       rw[hcd]
       refine Nat.le_trans (List.length_filter_le _ _) ?_
       rw[List.length_take]
       omega
      have hrl:=HRL.out
      obtain⟨c1,VE⟩:∃c1,c1=c+1:=⟨_,rfl⟩
      have q1:(c:Int)+1=(c1:Int):=by omega
      have aly:c1≤1099511627777:=by omega
      have HCV:Hid ((getM N2 e.path).getD (.int .i64 0)=.int .i64 c):=by show _=_;rw[Qa.out.it,hcd];rfl
      have HIT:Hid (∃v,getM N2 e.path=some v):=⟨_,Qa.out.it⟩
      have iC:Hid (∀N4,Grew L e2.path (jJ N2 e.path (.int .i64 c1)) N4→Going L e N N4 (k+1)):=fun N4 hg=>by
       have h1:=Qa.out
       refine h1.step GI.out HX.out.1 Ud.out ?_
       rw[←hcd]
       have h2:zY (c+1)=.int .i64 c1:=by rw[VE];rfl
       rw[h2]
       exact hg
      have ag6:Hid (yg L (jJ N2 e.path (.int .i64 c1))≤n):=by
       refine Nat.le_trans (KP fun j v hj=>?_) ag5.out
       unfold tZ
       rw[fG] at hj ⊢
       split at hj
       ·rename_i hje
        rw[if_pos hje]
        exact⟨_,rfl⟩
       ·rename_i hje
        rw[if_neg hje]
        exact⟨_,Qa.out.old j v hj⟩
      clear hcd VE hcl acZ Ud
      go_wp2_with (first|(at_lookup;refine eG _ rfl _ _ _ rfl _ _ DL.out Tryz.underlying9 (.int .i64 0) (Tryz.zeroValue3 _) nb N2 rfl yQ.out e.path rfl hnl ?_;rw[HCV.out])|(at_mapUpdate;refine Aq _ rfl _ _ _ _ rfl _ _ DL.out Tryz.underlying9 nb N2 rfl yQ.out e.path rfl hnl (.int .i64 c1) rfl ?_;intro w3 hm3 hk3 hs3;have NQ:=Lib.hid hm3;have kL:=Lib.hid hk3;have HE3:=Lib.hid (HE2.out.one yQ.out hk3);have CJ:Hid (aU w3 F s L):=HS2.out.keeps hk3 (fun b hb e2=>HE2.out.far (by cases e2;exact hb));have cr3:w3.cell? ⟨cR,0,none⟩=some (.func (.func 35) #[] #[pv cN,pv cS,pv cR]):=HE3.out.r.cell 0;clear hm3 hk3 hs3 cn2 cs2 cr2 d0))
      refine(IH.out e2 w3 _ ag6.out he2 CJ.out HE3.out NQ.out).mono ?_
      rintro ed w4 ⟨rfl,N4,hm4,hg4,hk4⟩
      have HM4:=Lib.hid hm4
      have HG4:=Lib.hid hg4
      have wS:Hid (Keeps (One nb) w1 w4):=(iP.out.trans kL.out fun k hk=>.inl hk).trans hk4 fun k hk=>.inl hk
      clear hm4 hg4 hk4 cr3
      go_wp2_with fail
      go_roundg (e.refs.length-(k+1))
      case measure=>omega
      case rel=>exact⟨k+1,N4,rfl,by omega,by go_num,HM4,iC.out N4 HG4.out,wS⟩
    ·have hk2:k=e.refs.length:=by omega
     subst hk2
     go_wp2_with fail
     go_end0
     exact⟨rfl,N2,yQ.out,Qa.out.done GI.out rfl,iy.out.trans iP.out fun k hk=>.inl hk⟩
abbrev TR:TypeId:=86
structure iV(w:World)(b:Nat)(v:Value)(l:List (List UInt8)):Prop where
 blk:aS w b #[v] TR
 sl:Sl w 0 9 1 v l.length (bf l)
 fit:l.length≤1099511627776
def CS(b:Nat)(v:Value):Nat→Prop:=fun k=>k=b∨v.ownBlock=some k
def Qs(w:World)(v v':Value):Prop:=v'.ownBlock=v.ownBlock∨∃k,v'.ownBlock=some k∧w.heap.size≤k
theorem Keeps.VG{S:Nat→Prop}{a w:World}(h:Keeps S a.drew w):Keeps S a w:=⟨h.os,h.tape,h.output,h.size,h.block⟩
theorem Sl.neb{w:World}{b:Nat}{c0:Array Value}{v:Value}{n:Nat}{xs:List Value}(h:Sl w 0 9 1 v n xs)(hb0:aS w b c0 TR):v.ownBlock≠some b:=by
 intro e
 obtain⟨h1,⟨rfl,h3⟩|⟨b',off,cap,c,rfl,hB,hb,h2⟩⟩:=h
 ·cases e
 ·cases e
  have:=(hb0.inj hb).2
  revert this
  decide
theorem iV.ne{w:World}{b:Nat}{v:Value}{l:List (List UInt8)}(h:iV w b v l):v.ownBlock≠some b:=h.sl.neb h.blk
theorem Rz{w w1:World}{b:Nat}{v:Value}{l:List (List UInt8)}{x:List UInt8}{ao:Option Addr}{cc:Nat}{o:Obj}(h:iV w b v l)(hl:l.length<1099511627776)
 (hs:Sl w1 0 9 1 (.slice ao (l.length+1) cc) (l.length+1) (bf l++[.string ⟨x.toArray⟩])) (hb1:(Value.slice ao (l.length+1) cc).ownBlock=v.ownBlock∨(Value.slice ao (l.length+1) cc).ownBlock=some (w.alloc o).drew.heap.size)
 (hk:Keeps (jC v) (w.alloc o) w1) (hb:aS w1 b #[v] TR):
 (∃v',iV (w1.setCell ⟨b,0,none⟩ (.slice ao (l.length+1) cc)) b v' (l++[x])∧Qs w v v')∧Keeps (CS b v) w (w1.setCell ⟨b,0,none⟩ (.slice ao (l.length+1) cc)):=by
 refine⟨⟨.slice ao (l.length+1) cc,⟨hb.set 0 _,?_,by simp;omega⟩,?_⟩,?_⟩
 ·have hne:=hs.neb hb
  have h2:Sl w1 0 9 1 (.slice ao (l.length+1) cc) (l++[x]).length (bf (l++[x])):=by simpa [bf,sv] using hs
  exact h2.keep fun b' c hb' _ hblk=>hblk.jT ⟨b,0,none⟩ _ fun e=>hne (by rw[hb',e])
 ·rcases hb1 with h1|h1
  ·exact .inl h1
  ·exact .inr ⟨_,h1,by simp[World.drew]⟩
 ·refine Keeps.setCell ?_ _ _ (.inl (.inl rfl))
  exact(((Keeps.refl (CS b v) w).alloc o).trans hk fun k hk=>.inl (.inr hk))
theorem D8(l:List (List UInt8))(v:Value)(w:World)(hv:Rd w 1 v l.length (bf l)):
 Calls Tryz.prog 37 #[v] w fun e w'=>e=.returned (.int .i64 l.length)∧w=w':=by
 obtain⟨a0,c0,rfl,hc1,hc2⟩:=hv.shape
 clear hv
 go_enter Tryz.func37,Tryz.ntmps37
 go_wp2_with fail
 go_ret
 exact⟨rfl,rfl⟩
theorem xq(l:List (List UInt8))(v:Value)(i j:Nat)(hi:i<l.length)(hj:j<l.length)(w:World)(hv:Rd w 1 v l.length (bf l)):
 Calls Tryz.prog 191 #[v,.int .i64 i,.int .i64 j] w fun e w'=>e=.returned (.bool (Op.bytesLess (gT l i) (gT l j)))∧∃n,w'=w.drewN n:=by
 obtain⟨b,off,cp,rfl,-,h2,h3,hbl,hc,-⟩:=hv.pos (by omega)
 unfold maxLen at h3
 have d0:w.cell? ⟨b,off+i,none⟩=some (sv (gT l i)):=by rw[BD hi];exact(hc i (by omega)).trans (dJ l i hi)
 have d1:w.cell? ⟨b,off+j,none⟩=some (sv (gT l j)):=by rw[BD hj];exact(hc j (by omega)).trans (dJ l j hj)
 unfold sv at d0 d1
 clear hc hv
 generalize gT l i=x at *
 generalize gT l j=y at *
 have q1:(0:Int)≤(i:Int):=by omega
 have q2:(i:Int)<(l.length:Int):=by omega
 have q3:(0:Int)≤(j:Int):=by omega
 have q4:(j:Int)<(l.length:Int):=by omega
 go_enter Tryz.func191,Tryz.ntmps191
 go_upto_region 1 with(fail)
 go_quiet (fail)
 go_wp2_with fail
 go_ret
 exact⟨rfl,_,rfl⟩
theorem xu(l:List (List UInt8))(v:Value)(i j:Nat)(hi:i<l.length)(hj:j<l.length)(w:World)(hv:Sl w 0 9 1 v l.length (bf l)):
 Calls Tryz.prog 194 #[v,.int .i64 i,.int .i64 j] w fun e w'=>e=.returned (.tuple #[])∧Sl w' 0 9 1 v l.length (bf (swapT l i j))∧Keeps (jC v) w w'∧w'.heap.size=w.heap.size:=by
 obtain⟨b,off,cp,rfl,-,h2,h3,hbl,hc,hfz⟩:=hv.pos (by omega)
 unfold maxLen at h3
 have d0:w.cell? ⟨b,off+i,none⟩=some (sv (gT l i)):=by rw[BD hi];exact(hc i (by omega)).trans (dJ l i hi)
 have d1:w.cell? ⟨b,off+j,none⟩=some (sv (gT l j)):=by rw[BD hj];exact(hc j (by omega)).trans (dJ l j hj)
 have f0:=hfz (off+i)
 have f1:=hfz (off+j)
 unfold sv at d0 d1
 clear hc hfz
 have HV:=Lib.hid hv
 have hv2:=hv.set i (by omega) (sv (gT l j))
 have hg:=hv2.at j (by omega)
 obtain⟨u,hu⟩:∃u,((bf l).set i (sv (gT l j)))[j]? =some u:=⟨_,List.getElem?_eq_getElem (by simp[bf];exact hj)⟩
 have d2:((w.setCell ⟨b,off+i,none⟩ (sv (gT l j))).drew).cell? ⟨b,off+j,none⟩=some u:=hg.1.trans hu
 have d2':(w.setCell ⟨b,off+i,none⟩ (sv (gT l j))).cell? ⟨b,off+j,none⟩=some u:=hg.1.trans hu
 have f2:((w.setCell ⟨b,off+i,none⟩ (sv (gT l j))).drew).frozen? ⟨b,off+j,none⟩=false:=hg.2
 have f2':(w.setCell ⟨b,off+i,none⟩ (sv (gT l j))).frozen? ⟨b,off+j,none⟩=false:=hg.2
 have hv3:=hv2.set j (by omega) (sv (gT l i))
 have hsv:((bf l).set i (sv (gT l j))).set j (sv (gT l i))=bf (swapT l i j):=by simp[bf,swapT,List.map_set]
 rw[hsv] at hv3
 have hkk:Keeps (jC (.slice (some ⟨b,off,none⟩) l.length cp)) w ((w.setCell ⟨b,off+i,none⟩ (sv (gT l j))).setCell ⟨b,off+j,none⟩ (sv (gT l i))):=((Keeps.refl (jC (.slice (some ⟨b,off,none⟩) l.length cp)) w).setCell ⟨b,off+i,none⟩ _ (.inl rfl)).setCell ⟨b,off+j,none⟩ _ (.inl rfl)
 have HV3:=Lib.hid hv3
 have HKK:=Lib.hid hkk
 clear hv hv2 hv3 hsv hkk hu hg HV
 unfold sv at d2 d2' f2 f2' HV3 HKK
 have q1:(0:Int)≤(i:Int):=by omega
 have q2:(i:Int)<(l.length:Int):=by omega
 have q3:(0:Int)≤(j:Int):=by omega
 have q4:(j:Int)<(l.length:Int):=by omega
 generalize (gT l i)=X at *
 generalize (gT l j)=Y at *
 go_enter Tryz.func194,Tryz.ntmps194
 go_region
 go_wp2_with fail
 go_end0
 exact⟨rfl,HV3.out,HKK.out.drew,by simp[World.setCell,World.drew]⟩
theorem VH{b:Nat}{v:Value}{l:List (List UInt8)}{x:List UInt8}(w:World)(h:iV w b v (l++[x])):
 Calls Tryz.prog 192 #[pv b] w fun e w'=>e=.returned (.iface 9 (sv x))∧(∃v',iV w' b v' l∧v'.ownBlock=v.ownBlock)∧Keeps (CS b v) w w':=by
 have hlen:(l++[x]).length=l.length+1:=by simp
 have hfit:=h.fit
 rw[hlen] at hfit
 have hsl:=h.sl
 rw[hlen] at hsl
 obtain⟨bs,off,cp,rfl,-,h2,h3,hbl,hc,hfz⟩:=hsl.pos (by omega)
 unfold maxLen at h3
 have c0:=h.blk.cell 0
 have f0:=h.blk.free 0
 simp only[List.getElem?_toArray,List.getElem?_cons_zero] at c0
 have d0:w.cell? ⟨bs,off+l.length,none⟩=some (sv x):=(hc l.length (by omega)).trans (by simp[bf])
 have HSL:=Lib.hid (hsl.take (m:=l.length) (by omega))
 have hst:(bf (l++[x])).take (l.length*1)=bf l:=by simp[bf]
 have Q5:Hid (bs≠b):=fun e=>h.ne (by rw[←e];rfl)
 have HB:=Lib.hid h.blk
 have HST:=Lib.hid hst
 clear h hc hfz hsl hst
 unfold sv at d0
 unfold pv sv
 have e1:((l.length+1:Nat):Int)-1=(l.length:Int):=by omega
 go_enter Tryz.func192,Tryz.ntmps192
 go_wp2_with fail
 go_ret
 refine⟨rfl,⟨.slice (some ⟨bs,off,none⟩) l.length cp,⟨?_,?_,by omega⟩,rfl⟩,?_⟩
 ·exact HB.out.set 0 _
 ·have:=HSL.out
  rw[HST.out] at this
  exact this.keep fun b' c hb' _ hblk=>by
   cases hb'
   exact hblk.jT ⟨b,0,none⟩ _ Q5.out
 ·exact(Keeps.refl _ _).setCell _ _ (.inl (.inl rfl))
theorem RF(N:Nat)(b:Nat)(w:World):Sem.run Tryz.prog (method (N+1) 85 (.pointer (some ⟨b,0,none⟩)) "Push") w=.ok (193,.pointer (some ⟨b,0,none⟩)) w:=by kernel_rfl
theorem VI(N:Nat)(b:Nat)(w:World):Sem.run Tryz.prog (method (N+1) 85 (.pointer (some ⟨b,0,none⟩)) "Pop") w=.ok (192,.pointer (some ⟨b,0,none⟩)) w:=by kernel_rfl
theorem RG(N:Nat)(b:Nat)(w:World):Sem.run Tryz.prog (method (N+1) 85 (.pointer (some ⟨b,0,none⟩)) "Len") w=Sem.run Tryz.prog (loadVar 86 ⟨b,0,none⟩ >>=fun v=>Pure.pure (37,v)) w:=by kernel_rfl
theorem OL(N:Nat)(b:Nat)(w:World):Sem.run Tryz.prog (method (N+1) 85 (.pointer (some ⟨b,0,none⟩)) "Less") w=Sem.run Tryz.prog (loadVar 86 ⟨b,0,none⟩ >>=fun v=>Pure.pure (191,v)) w:=by kernel_rfl
theorem OM(N:Nat)(b:Nat)(w:World):Sem.run Tryz.prog (method (N+1) 85 (.pointer (some ⟨b,0,none⟩)) "Swap") w=Sem.run Tryz.prog (loadVar 86 ⟨b,0,none⟩ >>=fun v=>Pure.pure (194,v)) w:=by kernel_rfl
theorem vW(b:Nat)(w:World){v:Value}(h:w.cell? ⟨b,0,none⟩=some v):Sem.run Tryz.prog (loadVar 86 ⟨b,0,none⟩) w=.ok v w:=by
 simp[loadVar,go_sem,h]
theorem KZ(N:Nat){b:Nat}{w:World}{v:Value}(h:w.cell? ⟨b,0,none⟩=some v):Sem.run Tryz.prog (method (N+1) 85 (.pointer (some ⟨b,0,none⟩)) "Len") w=.ok (37,v) w:=by
 rw[RG N,Sem.run_bind,vW b w h];rfl
theorem xw(N:Nat){b:Nat}{w:World}{v:Value}(h:w.cell? ⟨b,0,none⟩=some v):Sem.run Tryz.prog (method (N+1) 85 (.pointer (some ⟨b,0,none⟩)) "Less") w=.ok (191,v) w:=by
 rw[OL N,Sem.run_bind,vW b w h];rfl
theorem xA(N:Nat){b:Nat}{w:World}{v:Value}(h:w.cell? ⟨b,0,none⟩=some v):Sem.run Tryz.prog (method (N+1) 85 (.pointer (some ⟨b,0,none⟩)) "Swap") w=.ok (194,v) w:=by
 rw[OM N,Sem.run_bind,vW b w h];rfl
theorem RH{b:Nat}{v:Value}{l:List (List UInt8)}(x:List UInt8)(w:World)(h:iV w b v l)(hl:l.length<1099511627776):
 Calls Tryz.prog 193 #[pv b,.iface 9 (sv x)] w fun e w'=>e=.returned (.tuple #[])∧(∃v',iV w' b v' (l++[x])∧Qs w v v')∧Keeps (CS b v) w w':=by
 obtain⟨va,vc,rfl,hc1,hc2⟩:=h.sl.shape
 unfold maxLen at hc2
 have c0:=h.blk.cell 0
 have f0:=h.blk.free 0
 simp only[List.getElem?_toArray,List.getElem?_cons_zero] at c0
 have HH:=Lib.hid h
 have hblt:=h.blk.lt
 clear h
 obtain⟨i0,hi,hi0,hi1,hi2⟩:=info_parts lM
 have hsl:=HH.out.sl
 have hta:∀w,Sem.run Tryz.prog (Instr.typeAssert (.iface 9 (.string ⟨x.toArray⟩)) 20 9 false) w=.ok (.string ⟨x.toArray⟩) w:=fun w=>by kernel_rfl
 unfold pv sv
 go_enter Tryz.func193,Tryz.ntmps193
 go_upto_region 0 with(fail)
 go_region_law (refine oL rfl _ _ 86 86 rfl 9 i0 _ 1 16 Tryz.underlying86 hi hi0 hi1 hi2 rfl 0 (.slice va l.length vc) _ _ rfl _ rfl 1 [.string ⟨x.toArray⟩] (by simp) (by first|exact hsl.alloc _|exact hsl) (by first|exact Src.kP Tryz.underlying86 (Sl.dM w 0 (Nat.zero_le _) 9 1 1 [.string ⟨x.toArray⟩] rfl (by simp[maxLen])) (by intro u hu;simp only[List.mem_cons,List.not_mem_nil,or_false] at hu;rcases hu with rfl;rfl)) (by unfold maxLen;omega) (by omega) ?_;intro ao cc w1 hs1 hk1 lW hb1;have iy:=Lib.hid (Keeps.VG lW);have oI:=Lib.hid hs1;have HB1:=Lib.hid hb1;have B1:=Lib.hid ((HH.out.blk.alloc (.cells #[.string ⟨x.toArray⟩] 9)).keeps iy.out (fun e=>HH.out.ne e));have c51:w1.cell? ⟨b,0,none⟩=some (.slice va l.length vc):=B1.out.cell 0;have f51:=B1.out.free 0;clear hs1 hk1 lW hb1)
 all_goals (
  go_wp2_with fail
  go_end0
  exact⟨rfl,Rz HH.out hl oI.out HB1.out iy.out B1.out⟩)
def hv(b:Nat):Value:=.iface 85 (.pointer (some ⟨b,0,none⟩))
theorem iV.cell{w:World}{b:Nat}{v:Value}{l:List (List UInt8)}(h:iV w b v l):w.cell? ⟨b,0,none⟩=some v:=h.blk.cell 0
theorem iV.non{w w':World}{b:Nat}{v:Value}{l:List (List UInt8)}(h:iV w b v l)(k:Keeps Non w w'):iV w' b v l:=
 ⟨h.blk.keeps k fun h=>h,h.sl.keep fun _ _ _ _ hb=>hb.keeps k fun h=>h,h.fit⟩
theorem iV.swap{w w':World}{b:Nat}{v:Value}{l m:List (List UInt8)}(h:iV w b v l)(hm:m.length=l.length)(hs:Sl w' 0 9 1 v l.length (bf m))(k:Keeps (jC v) w w'):iV w' b v m:=
 ⟨h.blk.keeps k fun e=>h.ne e,by rw[hm];exact hs,by rw[hm];exact h.fit⟩
theorem YK{b j:Nat}{v:Value}{l:List (List UInt8)}(w:World)(h:iV w b v l)(hj:j<l.length)(hu:uS l l.length j):
 Calls Tryz.prog 72 #[hv b,.int .i64 j] w fun e w'=>e=.returned (.tuple #[])∧(∃l',iV w' b v l'∧l'.Perm l∧lT l' l'.length)∧Keeps (CS b v) w w':=by
 have hfit:=h.fit
 have H:=Lib.hid h
 have HU:=Lib.hid hu
 clear h hu
 unfold hv
 go_enter Tryz.func72,Tryz.ntmps72
 go_wp2_with fail
 go_loopg [1] (j+1) (fun gk iv wr=>∃(k:Nat) (m:List (List UInt8)),gk=k+1∧iv=.int .i64 k∧k<l.length∧Hid (iV wr b v m)∧Hid (m.Perm l)∧m.length=l.length∧Hid (uS m l.length k)∧Hid (Keeps (CS b v) w wr))
 case atStart=>exact⟨j,l,rfl,rfl,hj,H,List.Perm.refl _,rfl,HU,Keeps.refl _ _⟩
 case round=>
  clear H HU hj
  obtain⟨k,m,rfl,rfl,hk,HM,HP,hml,HI,HK⟩:=hrel
  rcases Nat.eq_zero_or_pos k with h0|h0
  ·subst h0
   go_wp2_with fail
   go_end0
   have hz:=HI.out.zero
   rw[←hml] at hz
   exact⟨rfl,⟨m,HM.out,HP.out,hz⟩,HK.out⟩
  ·obtain⟨i,hi⟩:∃i,i=(k-1) / 2:=⟨_,rfl⟩
   have e1:((k:Int)-1) / 2=(i:Int):=by omega
   have hik:i<k:=by omega
   have hb:((i:Int)==(k:Int))=false:=by rw[beq_eq_false_iff_ne];omega
   have HI2:=Lib.hid hi
   clear hi
   have c0:=HM.out.cell
   have hms:=fun N=>xw N c0
   have D9:=Lib.hid (xq m v k i (by omega) (by omega) wr HM.out.sl.rd)
   go_wp2_with fail
   refine D9.out.mono ?_
   rintro ed w2 ⟨rfl,nz,hw2⟩
   have hkd:Keeps Non wr w2:=by rw[hw2];exact(Keeps.refl _ _).drewN _
   have yQ:=Lib.hid (HM.out.non hkd)
   have iP:Hid (Keeps (CS b v) w w2):=HK.out.trans hkd fun _ h=>h.elim
   clear hw2 hkd hms HM HK c0
   cases hl:Op.bytesLess (gT m k) (gT m i) with
   |false=>
    have HL:=Lib.hid hl
    clear hl
    go_wp2_with fail
    go_end0
    have hz:=HI.out.done (by rw[←HI2.out];exact HL.out)
    rw[←hml] at hz
    exact⟨rfl,⟨m,yQ.out,HP.out,hz⟩,iP.out⟩
   |true=>
    have HL:=Lib.hid hl
    clear hl
    have c0:=yQ.out.cell
    have hms:=fun N=>xA N c0
    have X5:=Lib.hid (xu m v i k (by omega) (by omega) w2 yQ.out.sl)
    go_wp2_with fail
    refine X5.out.mono ?_
    rintro ed w3 ⟨rfl,hs3,hk3,hz3⟩
    have NQ:Hid (iV w3 b v (swapT m i k)):=yQ.out.swap (fK _ _ _) hs3 hk3
    have kL:Hid (Keeps (CS b v) w w3):=iP.out.trans hk3 fun k hk=>.inl (.inr hk)
    clear hs3 hk3 hz3 hms c0
    go_wp2_with fail
    go_roundg (i+1)
    case measure=>omega
    case rel=>
     have hst:=HI.out
     rw[←hml] at hst
     have h2:=hst.step (by omega) h0 (by rw[←HI2.out];exact HL.out)
     rw[←HI2.out,hml] at h2
     exact⟨i,swapT m i k,rfl,rfl,by omega,NQ,(uD (by omega) (by omega)).trans HP.out,by rw[fK];exact hml,h2,kL⟩
theorem Ea{l:List (List UInt8)}{i j n:Nat}(hi:i<n)(hj:j<n):(swapT l i j).drop n=l.drop n:=by
 unfold swapT
 rw[List.drop_set_of_lt hj,List.drop_set_of_lt hi]
theorem RI{b n:Nat}{v:Value}{l:List (List UInt8)}(w:World)(h:iV w b v l)(hn:n<l.length)(hd:mD l n 0):
 Calls Tryz.prog 73 #[hv b,.int .i64 0,.int .i64 n] w fun e w'=>(∃g,e=.returned (.bool g))∧(∃l',iV w' b v l'∧l'.Perm l∧lT l' n∧l'.drop n=l.drop n)∧Keeps (CS b v) w w':=by
 have hfit:=h.fit
 have H:=Lib.hid h
 have HU:=Lib.hid hd
 clear h hd
 unfold hv
 go_enter Tryz.func73,Tryz.ntmps73
 go_wp2_with fail
 go_loopg [7] (n-0) (fun gk iv wr=>∃(k:Nat) (m:List (List UInt8)),gk=n-k∧iv=.int .i64 k∧k≤n∧Hid (iV wr b v m)∧Hid (m.Perm l)∧m.length=l.length∧Hid (mD m n k)∧Hid (m.drop n=l.drop n)∧Hid (Keeps (CS b v) w wr))
 case atStart=>exact⟨0,l,rfl,rfl,by omega,H,List.Perm.refl _,rfl,HU,rfl,Keeps.refl _ _⟩
 case round=>
  clear H HU
  obtain⟨k,m,rfl,rfl,hk,HM,HP,hml,HI,HD,HK⟩:=hrel
  by_cases ac0:n≤2*k+1
  ·have q1:decide ((n:Int)≤2*(k:Int)+1)=true:=by simp;omega
   have hz:=HI.out.leaf ac0
   have HZ:=Lib.hid hz
   clear hz
   go_wp2_with fail
   go_ret
   exact⟨⟨_,rfl⟩,⟨m,HM.out,HP.out,HZ.out,HD.out⟩,HK.out⟩
  ·obtain⟨j1,hj1⟩:∃j1,j1=2*k+1:=⟨_,rfl⟩
   obtain⟨j2,hj2⟩:∃j2,j2=2*k+2:=⟨_,rfl⟩
   have e1:2*(k:Int)+1=(j1:Int):=by omega
   have e2:(j1:Int)+1=(j2:Int):=by omega
   have q1:decide ((n:Int)≤(j1:Int))=false:=by simp;omega
   have q2:decide ((j1:Int)<0)=false:=by simp
   have q3:j1<n:=by omega
   have q4:k<j1:=by omega
   have q5:j1<j2:=by omega
   have q6:Hid (j1=2*k+1∧j2=2*k+2):=⟨hj1,hj2⟩
   have q7:(j2:Nat)≤n:=by omega
   clear hj1 hj2
   go_upto_region 6 with(fail)
   go_cut [33] (fun c wx=>∃g,c=.bool g∧Hid (nP m n k (if g=true then j2 else j1))∧Hid (iV wx b v m)∧Hid (Keeps (CS b v) w wx))
   case first=>
    by_cases hr:j2<n
    ·have q8:decide ((j2:Int)<(n:Int))=true:=by simp;omega
     have c0:=HM.out.cell
     have hms:=fun N=>xw N c0
     have D9:=Lib.hid (xq m v j2 j1 (by omega) (by omega) wr HM.out.sl.rd)
     go_wp2_with fail
     refine D9.out.mono ?_
     rintro ed w2 ⟨rfl,nz,hw2⟩
     have hkd:Keeps Non wr w2:=by rw[hw2];exact(Keeps.refl _ _).drewN _
     have yQ:=Lib.hid (HM.out.non hkd)
     have iP:Hid (Keeps (CS b v) w w2):=HK.out.trans hkd fun _ h=>h.elim
     clear hw2 hkd hms HM HK c0
     go_wp2_with fail
     go_meet
     refine⟨_,rfl,?_,yQ,iP⟩
     have h1:=q6.out.1
     have h2:=q6.out.2
     show nP _ _ _ _
     cases hl:Op.bytesLess (gT m j2) (gT m j1) with
     |true=>
      rw[if_pos rfl]
      rw[h1,h2] at hl
      rw[h2] at hr ⊢
      exact nP.right hr hl
     |false=>
      rw[if_neg (by simp)]
      rw[h1,h2] at hl
      rw[h2] at hr
      rw[h1]
      exact nP.left hr hl
    ·have q8:decide ((j2:Int)<(n:Int))=false:=by simp;omega
     go_wp2_with fail
     go_meet
     refine⟨false,rfl,?_,HM,HK⟩
     have h1:=q6.out.1
     have h2:=q6.out.2
     show nP _ _ _ _
     rw[if_neg (by simp),h1]
     exact nP.one (by omega) (by omega)
   case rest=>
    obtain⟨g,rfl,HC,yQ,iP⟩:=hcut
    cases g with
    |true=>
     rw[if_pos rfl] at HC
     have c0:=yQ.out.cell
     have hms:=fun N=>xw N c0
     have D9:=Lib.hid (xq m v j2 k (by have:=HC.out.2.1;omega) (by omega) wc yQ.out.sl.rd)
     go_wp2_with fail
     refine D9.out.mono ?_
     rintro ed w2 ⟨rfl,nz,hw2⟩
     have hkd:Keeps Non wc w2:=by rw[hw2];exact(Keeps.refl _ _).drewN _
     have NQ:=Lib.hid (yQ.out.non hkd)
     have kL:Hid (Keeps (CS b v) w w2):=iP.out.trans hkd fun _ h=>h.elim
     clear hw2 hkd hms yQ iP c0
     cases hl:Op.bytesLess (gT m j2) (gT m k) with
     |false=>
      have HL:=Lib.hid hl
      clear hl
      go_wp2_with fail
      go_ret
      exact⟨⟨_,rfl⟩,⟨m,NQ.out,HP.out,HI.out.done HC.out HL.out,HD.out⟩,kL.out⟩
     |true=>
      have HL:=Lib.hid hl
      clear hl
      have c0:=NQ.out.cell
      have hms:=fun N=>xA N c0
      have X5:=Lib.hid (xu m v k j2 (by omega) (by have:=HC.out.2.1;omega) w2 NQ.out.sl)
      go_wp2_with fail
      refine X5.out.mono ?_
      rintro ed w3 ⟨rfl,hs3,hk3,hz3⟩
      have HM4:Hid (iV w3 b v (swapT m k j2)):=NQ.out.swap (fK _ _ _) hs3 hk3
      have wS:Hid (Keeps (CS b v) w w3):=kL.out.trans hk3 fun k hk=>.inl (.inr hk)
      clear hs3 hk3 hz3 hms c0
      go_wp2_with fail
      go_roundg (n-j2)
      case measure=>omega
      case rel=>
       have h2:=HI.out.step (by omega) HC.out HL.out
       have h3:=HC.out.2.1
       refine⟨j2,swapT m k j2,rfl,by go_num,by omega,HM4,(uD (by omega) (by omega)).trans HP.out,by rw[fK];exact hml,h2,?_,wS⟩
       show _=_
       rw[Ea (by omega) (by omega)]
       exact HD.out
    |false=>
     rw[if_neg (by simp)] at HC
     have c0:=yQ.out.cell
     have hms:=fun N=>xw N c0
     have D9:=Lib.hid (xq m v j1 k (by have:=HC.out.2.1;omega) (by omega) wc yQ.out.sl.rd)
     go_wp2_with fail
     refine D9.out.mono ?_
     rintro ed w2 ⟨rfl,nz,hw2⟩
     have hkd:Keeps Non wc w2:=by rw[hw2];exact(Keeps.refl _ _).drewN _
     have NQ:=Lib.hid (yQ.out.non hkd)
     have kL:Hid (Keeps (CS b v) w w2):=iP.out.trans hkd fun _ h=>h.elim
     clear hw2 hkd hms yQ iP c0
     cases hl:Op.bytesLess (gT m j1) (gT m k) with
     |false=>
      have HL:=Lib.hid hl
      clear hl
      go_wp2_with fail
      go_ret
      exact⟨⟨_,rfl⟩,⟨m,NQ.out,HP.out,HI.out.done HC.out HL.out,HD.out⟩,kL.out⟩
     |true=>
      have HL:=Lib.hid hl
      clear hl
      have c0:=NQ.out.cell
      have hms:=fun N=>xA N c0
      have X5:=Lib.hid (xu m v k j1 (by omega) (by have:=HC.out.2.1;omega) w2 NQ.out.sl)
      go_wp2_with fail
      refine X5.out.mono ?_
      rintro ed w3 ⟨rfl,hs3,hk3,hz3⟩
      have HM4:Hid (iV w3 b v (swapT m k j1)):=NQ.out.swap (fK _ _ _) hs3 hk3
      have wS:Hid (Keeps (CS b v) w w3):=kL.out.trans hk3 fun k hk=>.inl (.inr hk)
      clear hs3 hk3 hz3 hms c0
      go_wp2_with fail
      go_roundg (n-j1)
      case measure=>omega
      case rel=>
       have h2:=HI.out.step (by omega) HC.out HL.out
       have h3:=HC.out.2.1
       refine⟨j1,swapT m k j1,rfl,by go_num,by omega,HM4,(uD (by omega) (by omega)).trans HP.out,by rw[fK];exact hml,h2,?_,wS⟩
       show _=_
       rw[Ea (by omega) (by omega)]
       exact HD.out
theorem zn{b:Nat}{v:Value}{l:List (List UInt8)}(x:List UInt8)(w:World)(h:iV w b v l)(hl:l.length<1099511627776)(hh:lT l l.length):
 Calls Tryz.prog 36 #[hv b,.iface 9 (sv x)] w fun e w'=>e=.returned (.tuple #[])∧(∃v' l',iV w' b v' l'∧l'.Perm (l++[x])∧lT l' l'.length∧Qs w v v')∧Keeps (CS b v) w w':=by
 have X9:=Lib.hid (RH x w h hl)
 have HH:=Lib.hid hh
 have hms:=fun N=>RF N b w
 clear h hh
 unfold hv
 unfold pv sv at X9
 unfold sv
 go_enter Tryz.func36,Tryz.ntmps36
 go_wp2_with fail
 refine X9.out.mono ?_
 rintro e w1 ⟨rfl,⟨v1,h1,ho1⟩,hk1⟩
 have H1:=Lib.hid h1
 have HO1:=Lib.hid ho1
 have iy:=Lib.hid hk1
 have hln:(l++[x]).length=l.length+1:=by simp
 have c0:=h1.cell
 have aaL:=fun N=>KZ N c0
 have hsl:=h1.sl.rd
 have Uh:=Lib.hid (D8 (l++[x]) v1 w1 hsl)
 have HU:=Lib.hid (uS.snoc HH.out x)
 clear h1 ho1 hk1 hms hsl
 go_wp2_with fail
 refine Uh.out.mono ?_
 rintro e w2 ⟨rfl,rfl⟩
 have e1:(((l++[x]).length:Nat):Int)-1=(l.length:Int):=by rw[hln];omega
 have HUP:=Lib.hid (YK w1 H1.out (by rw[hln];omega) HU.out)
 clear hln aaL c0
 unfold hv at HUP
 go_wp2_with fail
 refine HUP.out.mono ?_
 rintro e w3 ⟨rfl,⟨l',h2,hp2,hh2⟩,hk2⟩
 have H2:Hid (iV w3 b v1 l'∧l'.Perm (l++[x])∧lT l' l'.length):=⟨h2,hp2,hh2⟩
 have iP:=Lib.hid hk2
 clear h2 hp2 hh2 hk2
 go_wp2_with fail
 go_end0
 refine⟨rfl,⟨v1,l',H2.out.1,H2.out.2.1,H2.out.2.2,HO1.out⟩,iy.out.trans iP.out fun k hk=>?_⟩
 rcases hk with rfl|hk
 ·exact .inl (.inl rfl)
 ·rcases HO1.out with h|⟨q,h,hq⟩
  ·rw[h] at hk
   exact .inl (.inr hk)
  ·rw[h] at hk
   cases hk
   exact .inr hq
theorem La{b:Nat}{v:Value}{l:List (List UInt8)}(w:World)(h:iV w b v l)(hl:0<l.length)(hh:lT l l.length):
 Calls Tryz.prog 38 #[hv b] w fun e w'=>(∃x v' l',e=.returned (.iface 9 (sv x))∧iV w' b v' l'∧(l'++[x]).Perm l∧lT l' l'.length∧(∀y∈l,Ji x y)∧v'.ownBlock=v.ownBlock)∧Keeps (CS b v) w w':=by
 obtain⟨n,hn⟩:∃n,l.length=n+1:=⟨l.length-1,by omega⟩
 have H:=Lib.hid h
 have HH:=Lib.hid hh
 have c0:=h.cell
 have hms:=fun N=>KZ N c0
 have Uh:=Lib.hid (D8 l v w h.sl.rd)
 have hfit:=h.fit
 clear h hh
 unfold hv
 go_enter Tryz.func38,Tryz.ntmps38
 go_wp2_with fail
 refine Uh.out.mono ?_
 rintro e w2 ⟨rfl,rfl⟩
 have e1:((l.length:Nat):Int)-1=(n:Int):=by omega
 have aaL:=fun N=>xA N c0
 have X5:=Lib.hid (xu l v 0 n (by omega) (by omega) w H.out.sl)
 clear hms
 go_wp2_with fail
 refine X5.out.mono ?_
 rintro e w3 ⟨rfl,hs3,hk3,hz3⟩
 have NQ:Hid (iV w3 b v (swapT l 0 n)):=H.out.swap (fK _ _ _) hs3 hk3
 have kL:Hid (Keeps (CS b v) w w3):=hk3.mono fun k _ hk=>.inr hk
 have HDI:=Lib.hid (mD.start HH.out hn)
 have UN:=Lib.hid (RI w3 NQ.out (by rw[fK];omega) HDI.out)
 unfold hv at UN
 clear hs3 hk3 hz3 aaL c0 X5
 go_wp2_with fail
 refine UN.out.mono ?_
 rintro e w4 ⟨⟨g,rfl⟩,⟨m,h4,Yk,hh4,hd4⟩,hk4⟩
 have hml:m.length=n+1:=by rw[Yk.length_eq,fK,hn]
 have hmx:m=m.take n++[gT l 0]:=by
  have h1:m.drop n=[gT l 0]:=by
   rw[hd4,List.drop_eq_getElem_cons (by rw[fK];omega),List.drop_eq_nil_of_le (by rw[fK];omega),←BD (by rw[fK];omega),CQ (by omega) (by omega),if_pos rfl]
  rw[←h1,List.take_append_drop]
 obtain⟨t,ht⟩:∃t,t=m.take n:=⟨_,rfl⟩
 have HT:Hid (lT t t.length):=by rw[ht];exact hh4.take (by omega)
 rw[←ht] at hmx
 have zZ:Hid ((t++[gT l 0]).Perm l):=by
  rw[←hmx]
  exact Yk.trans (uD (by omega) (by omega))
 rw[hmx] at h4
 have HLE:Hid (∀y∈l,Ji (gT l 0) y):=fun y hy=>by
  obtain⟨k,hk,rfl⟩:=List.getElem_of_mem hy
  rw[←BD hk]
  exact HH.out.least k hk
 have wS:Hid (Keeps (CS b v) w w4):=kL.out.trans hk4 fun k hk=>.inl hk
 have Aa:=Lib.hid (VH w4 h4)
 have hms:=fun N=>VI N b w4
 unfold pv at Aa
 clear hk4 h4 Yk hh4 hd4 hmx ht hml UN HDI NQ kL Uh HH H
 generalize gT l 0=x at *
 go_wp2_with fail
 refine Aa.out.mono ?_
 rintro e w5 ⟨rfl,⟨v',h5,hv5⟩,hk5⟩
 have H5:Hid (iV w5 b v' t∧v'.ownBlock=v.ownBlock):=⟨h5,hv5⟩
 have ng:Hid (Keeps (CS b v) w w5):=wS.out.trans hk5 fun k hk=>.inl hk
 clear h5 hv5 hk5 hms
 go_wp2_with fail
 go_ret
 exact⟨⟨x,v',t,rfl,H5.out.1,zZ.out,HT.out,HLE.out,H5.out.2⟩,ng.out⟩
end Go.Proofs.YtdkogijdfgfpeaaGreatDoor

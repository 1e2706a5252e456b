/- The document's Import. -/
import Derived.Test.YtdkogijdfgfpeaaGreatDoorZRIU
import Derived.Test.YtdkogijdfgfpeaaGreatDoorZQIns
import Derived.Test.YtdkogijdfgfpeaaGreatDoorZIImpW
import Derived.Test.YtdkogijdfgfpeaaGreatDoorZPackw
set_option linter.unusedVariables false
namespace Go.Proofs.YtdkogijdfgfpeaaGreatDoor
open Go Go.RowKit
set_option maxHeartbeats 12800000
set_option maxRecDepth 100000
def og(w:World)(G:Nat→Prop)(r:Nat)(has:aH)(S:List UInt8)(ed:Ending)(w':World):Prop:=
 match gq has S with
 | .error e=>ed=.returned (.tuple #[.slice none 0 0,.int .i64 e.1,.int .i64 e.2])∧Keeps Non w w'
 | .ok x=>∃v,ed=.returned (.tuple #[v,.int .i64 0,.int .i64 0])∧Sl w' w.heap.size 9 1 v (bG has x.came).2.length (bf (bG has x.came).2)∧
  (∃G',CO w' G' r (bG has x.came).1∧(∀k,G' k→G k∨(w.heap.size≤k∧k<w'.heap.size))∧∀k,v.ownBlock=some k→¬G' k)∧Keeps G w w'
theorem IK(q:RQ)(e p:Int)(S:List UInt8):(q.aO e p).rs S=q.rs S:=by
 have h:=o7 q e p
 unfold RQ.rs
 rw[h.1,h.2.1]
theorem PI(S:List UInt8)(q:RQ):q.at'≤(pz S q).at':=by
 unfold pz
 have h1:=(bQ S [nT] q.clear).2
 exact Nat.le_trans h1 (EO S 6 [] _).2
theorem TI(w:World)(S:ByteArray)(hS:S.size≤549755813888):lF w.heap.size w.heap.size [] S.data.toList wH (w.alloc (.cells #[.string S,.int .i64 0,.int .i64 0,.int .i64 0,.slice none 0 0] RT)) (.slice none 0 0):=by
 have hb0:=aS.new w #[sv S.data.toList,.int .i64 0,.int .i64 0,.int .i64 0,.slice none 0 0] RT
 have e:(sv S.data.toList:Value)=.string S:=by simp[sv]
 rw[e] at hb0
 refine⟨?_,Nat.le_refl _,Sl.nil _ _ _ _,by rw[dlen];exact hS,Nat.zero_le _,by simp⟩
 rw[e]
 exact hb0
theorem TJ{w w':World}{G:Nat→Prop}{r:Nat}{has:aH}{v:Value}{T:List (Value×Value×Value)}(hq:kE w (fun k=>G k∧k≠r) has v T)(hk:Keeps Non w w'):Ye w' w.heap.size (fun k=>G k∧k≠r) [] has v T:=by
 have h:=hq.non hk
 exact⟨h.sl,fun k hk=>.inl (h.own k hk),h.len,fun i e t he ht=>⟨(h.ents i e t he ht).path,.inl ⟨(h.ents i e t he ht).tree,(h.ents i e t he ht).U6⟩,.inl ⟨(h.ents i e t he ht).refs,(h.ents i e t he ht).U7⟩⟩⟩
theorem Fq{S:List UInt8}{q:RQ}{R:RE CX}{x:CX}(h:Stat S q R (zO (x,q.rs S)))(hat:q.at'≤S.length):((zH S q).e≠0→R=.error ((zH S q).e,(zH S q).bad))∧((zH S q).e=0→q.e=0∧R=.ok x):=by
 unfold zH
 by_cases ha:q.at'<S.length
 ·rw[if_pos ha]
  by_cases he:q.e=0
  ·rw[lG _ _ he]
   refine⟨fun _=>?_,fun e=>absurd e (by show(10:Int)≠0;decide)⟩
   rw[h.1 he]
   unfold zO
   rw[if_neg]
   ·rfl
   ·intro e2
    have h2:(S.drop q.at').length=0:=by rw[show S.drop q.at'=[] from e2];rfl
    rw[List.length_drop] at h2
    omega
  ·rw[RQ.fU he]
   exact⟨h.2,fun e=>absurd e he⟩
 ·rw[if_neg ha]
  refine⟨h.2,fun he=>⟨he,?_⟩⟩
  rw[h.1 he]
  unfold zO
  rw[if_pos]
  show S.drop q.at'=[]
  exact List.drop_eq_nil_of_le (by omega)
theorem Bf{w w':World}{B r:Nat}{S:List UInt8}{G:Nat→Prop}{gy:List (Value×List Node)}{q:RQ}{vl:Value}{L came has:aH}{fresh:List (List UInt8)}{lv cv fv:Value}{T T2:List (Value×Value×Value)}
 (h0:CO w G r has) (hB:w.heap.size=B) (hkk:Keeps (Py B) w w') (h:wL w' B B S (fun k=>G k∧k≠r) gy q vl L came fresh lv cv fv T T2):
 (∃G',CO (w'.setCell ⟨r,0,none⟩ lv) G' r L∧(∀k,G' k→G k∨(B≤k∧k<(w'.setCell ⟨r,0,none⟩ lv).heap.size))∧∀k,fv.ownBlock=some k→¬G' k)∧Keeps G w (w'.setCell ⟨r,0,none⟩ lv)∧Sl (w'.setCell ⟨r,0,none⟩ lv) B 9 1 fv fresh.length (bf fresh)∧w'.cell? ⟨r,0,none⟩≠none∧w'.frozen? ⟨r,0,none⟩=false:=by
 obtain⟨v,T',g1,g2⟩:=h0.mem
 have hrB:r<B:=by rw[←hB];exact h0.lt r h0.own
 have hbr:=g1.keeps hkk fun e=>by have h1:B≤r:=e;omega
 have hq:=h.l.q fun t ht=>(h.rd.kept t ht).1
 have hset:Keeps (One r) w' (w'.setCell ⟨r,0,none⟩ lv):=(Keeps.refl _ _).setCell _ _ (.inl rfl)
 have hne:∀k,((G k∧k≠r)∨B≤k)→k≠r:=fun k hk=>by
  rcases hk with hk|hk
  ·exact hk.2
  ·omega
 have hq2:=hq.keeps hset fun k hk e=>hne k hk e
 have hsz:(w'.setCell ⟨r,0,none⟩ lv).heap.size=w'.heap.size:=by simp[World.setCell]
 have aac:∀k,fv.ownBlock=some k→B≤k∧k<w'.heap.size:=fun k hk=>h.f.own k hk
 have hap:∀(k:Nat) (c:Array Value) (Ty:TypeId),fv.ownBlock=some k→aS w' k c Ty→Ty=9:=fun k c Ty hk hb=>by
  obtain⟨-,⟨e1,-⟩|⟨b',off,cap,c',e1,hB',hb',-⟩⟩:=h.f
  ·rw[e1] at hk;cases hk
  ·rw[e1] at hk
   cases hk
   exact(hb.inj hb').2
 have aeE:∀(E:TypeId) (size n:Nat) (xs:List Value) (u:Value) (BB:Nat),Sl w' BB E size u n xs→E≠9→∀k,u.ownBlock=some k→fv.ownBlock≠some k:=fun E size n xs u BB hs hE k hk e2=>by
  obtain⟨-,⟨e1,-⟩|⟨b',off,cap,c',e1,hB',hb',-⟩⟩:=hs
  ·rw[e1] at hk;cases hk
  ·rw[e1] at hk
   cases hk
   exact hE (hap _ _ _ e2 hb')
 have hGf:∀k,G k→fv.ownBlock≠some k:=fun k hk e=>by
  have h1:=h0.lt k hk
  have h2:=(aac k e).1
  omega
 refine⟨⟨fun k=>G k∨(B≤k∧k<w'.heap.size∧fv.ownBlock≠some k),⟨fun k hk=>?_,.inl h0.own,lv,T,hbr.set 0 lv,hq2.sl,fun k hk=>?_,hq2.len,fun i e t he ht=>?_⟩,fun k hk=>?_,fun k hk hk2=>?_⟩,?_,?_,?_,hbr.free 0⟩
 ·rw[hsz]
  rcases hk with hk|hk
  ·exact Nat.lt_of_lt_of_le (h0.lt k hk) hkk.size
  ·exact hk.2.1
 ·have h1:=h.l.own k hk
  refine⟨?_,hne k h1⟩
  rcases h1 with h1|h1
  ·exact .inl h1.1
  ·exact .inr ⟨h1,h.l.sl.pR hk,aeE _ _ _ _ _ _ h.l.sl (by decide) k hk⟩
 ·have hE:=hq2.ents i e t he ht
  have hE0:=h.l.ents i e t he ht
  refine⟨hE.path,hE.tree,hE.refs,fun k hk=>?_,fun k hk=>?_⟩
  ·rcases hE0.tree with⟨-,g⟩|g
   ·exact⟨.inl (g k hk).1,(g k hk).2⟩
   ·have hs:=(h.rd.kept _ g).1
    have h3:=hs.own k hk
    exact⟨.inr ⟨h3.1,h3.2,aeE _ _ _ _ _ _ hs (by decide) k hk⟩,by omega⟩
  ·rcases hE0.refs with⟨-,g⟩|g
   ·exact⟨.inl (g k hk).1,(g k hk).2⟩
   ·have h3:=g.own k hk
    exact⟨.inr ⟨h3.1,h3.2,h.a2 t (List.mem_append.2 (.inl (List.mem_of_getElem? ht))) k hk⟩,by omega⟩
 ·rw[hsz]
  rcases hk with hk|hk
  ·exact .inl hk
  ·exact .inr ⟨hk.1,hk.2.1⟩
 ·rcases hk2 with hk2|hk2
  ·exact hGf k hk2 hk
  ·exact hk2.2.2 hk
 ·refine⟨hkk.os,hkk.tape,hkk.output,?_,fun k hlt hn=>?_⟩
  ·rw[hsz];exact hkk.size
  ·have hkr:k≠r:=fun e=>hn (e ▸ h0.own)
   have h1:=hset.block k (Nat.lt_of_lt_of_le hlt hkk.size) hkr
   rw[h1]
   exact hkk.block k hlt fun e=>by have h2:B≤k:=e;omega
 ·exact h.f.keep fun b c hb _ hblk=>hblk.keeps hset fun e=>by have h1:=(aac b hb).1;have h2:b=r:=e;omega
 ·rw[hbr.cell 0];simp
theorem Nv:(Tryz.prog.info? 165).map (fun i=>(i.zero,i.size,i.bytes))=some (some (.agg #[.string ⟨#[]⟩,.slice none 0 0,.slice none 0 0]),3,64):=by kernel_rfl
theorem Nw{G:Nat→Prop}{r:Nat}{has:aH}(w:World)(h:CO w G r has)(hok:bK has)(hfl:∀e∈has,mM e)(S:ByteArray)(hS:S.size≤549755813888):
 Calls Tryz.prog 70 #[pv r,.string S] w (og w G r has S.data.toList):=by
 obtain⟨v0,T0,hq1,hq2⟩:=h.mem
 obtain⟨la0,lc0,rfl,hl1,hl2⟩:=hq2.sl.shape
 have HQ:=Lib.hid h
 have vg:=Lib.hid hok
 have Rq:=Lib.hid hfl
 have HQ1:=Lib.hid hq1
 have Qv:=Lib.hid hq2
 have HRL:Hid (r<w.heap.size):=h.lt r h.own
 have HR0:=Lib.hid (TI w S hS)
 have HG:Hid (∀j,(G j∧j≠r)→j<w.heap.size):=fun j hj=>h.lt j hj.1
 obtain⟨R,hR⟩:∃R,gq has S.data.toList=R:=⟨_,rfl⟩
 have HR:=Lib.hid hR
 have aeF:Stat S.data.toList wH R ((bU [dK] (wH.rs S.data.toList)).bind fun y=>(pI (S.data.toList.length+1) (jG has) y.2).bind zO):=⟨fun _=>by rw[←hR];exact JA has _,fun e=>absurd rfl e⟩
 have aeG:=Lib.hid aeF
 clear h hok hfl hq1 hq2 hR aeF
 unfold pv
 go_enter Tryz.func70,Tryz.ntmps70
 go_upto_region 2 with(fail)
 have Zm:Hid (Keeps Non w (w.alloc (.cells #[.string S,.int .i64 0,.int .i64 0,.int .i64 0,.slice none 0 0] RT))):=(Keeps.refl _ _).alloc _
 obtain⟨w1,hw1⟩:∃w1,w.alloc (.cells #[.string S,.int .i64 0,.int .i64 0,.int .i64 0,.slice none 0 0] RT)=w1:=⟨_,rfl⟩
 rw[hw1] at HR0 Zm ⊢
 clear hw1
 obtain⟨B,hB⟩:∃B,w.heap.size=B:=⟨_,rfl⟩
 rw[hB] at HR0 HG HRL ⊢
 have HB:=Lib.hid hB
 clear hB
 go_wp2_with fail
 refine(iE HR0.out ⟨#[101,120,112,111,114,116,45,49]⟩).mono ?_
 rintro e w2 ⟨rfl,h2,k2⟩
 have h2:lF B B [] S.data.toList (aB S.data.toList [dK] wH).2 w2 (.slice none 0 0):=h2
 obtain⟨hs2,ait,-⟩:=tX aeG.out (by exact Nat.zero_le _)
 obtain⟨q2,hq2⟩:∃q2,(aB S.data.toList [dK] wH).2=q2:=⟨_,rfl⟩
 rw[hq2] at h2 hs2 ait
 have H2:=Lib.hid h2
 have HS2:=Lib.hid hs2
 have iP:Hid (Kp B jd w1 w2):=k2.rt
 have abr:Hid (Keeps (Py B) w w2):=(Zm.out.mono fun _ _ h=>h.elim).trans iP.out.Ur fun _ h=>.inl h
 have HL2:Hid (Ye w2 B (fun k=>G k∧k≠r) [] has (.slice la0 T0.length lc0) T0):=by
  have h1:=TJ Qv.out Zm.out
  rw[HB.out] at h1
  exact h1.kp iP.out HG.out (fun x hx=>hx)
 have hbr:=HQ1.out.keeps abr.out fun e=>by have h1:B≤r:=e;have:=HRL.out;omega
 have cr:=hbr.cell 0
 simp only[List.getElem?_toArray,List.getElem?_cons_zero] at cr
 clear h2 hs2 k2 HR0 aeG Zm iP hbr hq2
 have hlen2:q2.at'≤S.size:=by have:=H2.out.jR;rw[dlen] at this;exact this
 go_wp2_with fail
 clear cr
 go_loopg [8,9,10] (S.size+1-q2.at') (fun gk lv cv fv wr=>∃(gy:List (Value×List Node)) (q:RQ) (vl:Value),gk=S.size+1-q.at'∧Hid (Keeps (Py B) w wr)∧Hid (lF B B gy S.data.toList q wr vl)∧(∃a n c,lv=.slice a n c)∧(∃a n c,cv=.slice a n c)∧(∃a n c,fv=.slice a n c)∧
  ((q.e≠0∧Hid (R=.error (q.e,q.bad)))∨∃(f:Nat) (x:CX) (L came:aH) (fresh:List (List UInt8)) (T T2:List (Value×Value×Value)),Hid (BR R has S.data.toList q f x L came fresh)∧Hid (wL wr B B S.data.toList (fun k=>G k∧k≠r) gy q vl L came fresh lv cv fv T T2)))
 case atStart=>
  refine⟨[],q2,.slice none 0 0,rfl,abr,H2,⟨_,_,_,rfl⟩,⟨_,_,_,rfl⟩,⟨_,_,_,rfl⟩,?_⟩
  by_cases he:q2.e=0
  ·refine .inr ⟨S.data.toList.length+1,jG has,has,[],[],T0,[],⟨he,Um.start vg.out,rfl,rfl,rfl,rfl,HS2.out,by omega,(fun e he=>nomatch he),Nat.zero_le _⟩,⟨H2.out,HL2.out,⟨Sl.nil _ _ _ _,(fun k hk=>nomatch hk),rfl,(fun i e t he=>by simp at he)⟩,Sl.nil _ _ _ _,(fun k hk=>nomatch hk),(fun k hk=>nomatch hk),(fun t ht k hk e=>nomatch e)⟩⟩
  ·exact .inl ⟨he,HS2.out.2 he⟩
 case round=>
  clear H2 HS2 abr HL2
  obtain⟨gy,q,vl,rfl,pO,NR,⟨la,ln,lc,rfl⟩,⟨ca,cn,cc,rfl⟩,⟨fa,fn,fc,rfl⟩,hcase⟩:=hrel
  have hargs:Sl (wr.alloc (.cells #[.string ⟨#[112,97,116,104]⟩,.string ⟨#[101,110,100]⟩] 9)) 0 9 1 (.slice (some ⟨wr.heap.size,0,none⟩) 2 2) 2 (bf [cO,iY]):=aP wr 2 _ [cO,iY] _ rfl rfl rfl (by simp)
  have HW:=Lib.hid (qC (NR.out.keeps ((Keeps.refl _ _).alloc (.cells #[.string ⟨#[112,97,116,104]⟩,.string ⟨#[101,110,100]⟩] 9))) [cO,iY] _ hargs)
  have HA:Hid (Keeps Non wr (wr.alloc (.cells #[.string ⟨#[112,97,116,104]⟩,.string ⟨#[101,110,100]⟩] 9))):=(Keeps.refl _ _).alloc _
  clear hargs
  rcases hcase with⟨hne,HBAD⟩|⟨f,x,L,came,fresh,T,T2,zT,HIM⟩
  ·have Qc:aB S.data.toList [cO,iY] q=([],q):=bC hne
   rw[Qc] at HW
   have hnil:(([]:List UInt8)==[112,97,116,104])=false:=by rfl
   go_wp2_with fail
   refine HW.out.mono ?_
   rintro e w4 ⟨rfl,h4,k4⟩
   have xP:=Lib.hid h4
   have Gt:Hid (Keeps (Py B) w w4):=(pO.out.trans HA.out fun _ h=>h.elim).trans k4.Ur fun _ h=>.inl h
   obtain⟨q1,hq1⟩:∃q1,q1=q:=⟨_,rfl⟩
   rw[←hq1] at xP hne HBAD
   obtain⟨x,hx⟩:∃x,jG has=x:=⟨_,rfl⟩
   have Xv:Hid (Stat S.data.toList q1 R (zO (x,q1.rs S.data.toList))):=⟨fun e=>absurd e hne,fun _=>HBAD.out⟩
   have Xw:Hid (q1.e=0→∃T T2,wL w4 B B S.data.toList (fun k=>G k∧k≠r) gy q1 vl (bG has x.came).1 x.came (bG has x.came).2 (.slice la ln lc) (.slice ca cn cc) (.slice fa fn fc) T T2):=fun e=>absurd e hne
   clear h4 k4 HW HA pO NR hne HBAD hx Qc hnil hq1
   as_aux_lemma=>
    obtain⟨q5,hq5⟩:∃q5,zH S.data.toList q1=q5:=⟨_,rfl⟩
    have hend:=Fq Xv.out xP.out.jR
    rw[hq5] at hend
    have CG:=Lib.hid hend
    have F7:=Lib.hid hq5
    have c1:w4.cell? ⟨B,1,none⟩=some (.int .i64 q1.at'):=xP.out.blk.cell 1
    have hds:S.data.toList.length=S.size:=dlen S
    clear hq5 hend
    go_upto_if 177 with(fail)
    go_cut [] (fun wx=>Hid (lF B B gy S.data.toList q5 wx vl)∧Hid (Kp B jd w4 wx))
    case first=>as_aux_lemma=>
     by_cases hat:q1.at'<S.size
     ·have hd1:decide ((q1.at':Int)<(S.size:Int))=true:=decide_eq_true (by omega)
      have hd2:decide (q1.at'<S.size)=true:=decide_eq_true hat
      have Xx:Hid (q5=q1.fail 10 q1.at'):=by show _=_;rw[←F7.out,zH,if_pos (by rw[hds];exact hat)]
      rw[hd2]
      clear hat
      go_wp2_with fail
      refine(dP xP.out 10 _).mono ?_
      rintro e w5 ⟨rfl,h5,k5⟩
      rw[←Xx.out] at h5
      have H5:=Lib.hid h5
      have K5:Hid (Kp B jd w4 w5):=k5.rt
      clear h5 k5
      go_wp2_with fail
      go_meet
      exact⟨H5,K5⟩
     ·have hd1:decide ((q1.at':Int)<(S.size:Int))=false:=decide_eq_false (by omega)
      have hd2:decide (q1.at'<S.size)=false:=decide_eq_false hat
      have Xx:Hid (q5=q1):=by show _=_;rw[←F7.out,zH,if_neg (by rw[hds];exact hat)]
      rw[hd2]
      clear hat
      go_wp2_with fail
      go_meet
      rw[Xx.out]
      exact⟨xP,Kp.refl _ _ _⟩
    case rest=>as_aux_lemma=>
     obtain⟨H5,K5⟩:=hcut
     generalize wc=w5 at *
     clear c1 hds
     have c2:w5.cell? ⟨B,2,none⟩=some (.int .i64 q5.e):=H5.out.blk.cell 2
     have c3:w5.cell? ⟨B,3,none⟩=some (.int .i64 q5.bad):=H5.out.blk.cell 3
     have ng:Hid (Keeps (Py B) w w5):=Gt.out.trans K5.out.Ur fun _ h=>.inl h
     by_cases Fv:q5.e=0
     ·have hb:(q5.e==0)=true:=by rw[Fv];rfl
      have hb2:(q5.e !=0)=false:=by rw[Fv];rfl
      obtain⟨he1,hRx⟩:=CG.out.2 Fv
      obtain⟨T,T2,himp⟩:=Xw.out he1
      have wM:=himp.kp K5.out H5.out HG.out (fun x hx=>hx)
      obtain⟨hd1,hd2,hd3,hd4,hd5⟩:=Bf HQ.out HB.out ng.out wM
      obtain⟨cv0,hcv0⟩:=Option.ne_none_iff_exists'.1 hd4
      have HD1:=Lib.hid hd1
      have HD2:=Lib.hid hd2
      have HD3:=Lib.hid hd3
      have Xy:Hid (gq has S.data.toList=.ok x):=by show _=_;rw[HR.out];exact hRx
      have hfl:=wM.f.shape
      obtain⟨fa2,fc2,hfv,-,-⟩:=hfl
      clear Fv hRx himp wM hd1 hd2 hd3 hd4 he1
      go_wp2_with fail
      go_ret3
      unfold og
      rw[Xy.out]
      refine⟨_,rfl,?_,?_,HD2.out⟩
      ·rw[HB.out];exact HD3.out
      ·rw[HB.out];exact HD1.out
     ·have hb:(q5.e==0)=false:=by rw[beq_eq_false_iff_ne];exact Fv
      have hb2:(q5.e !=0)=true:=by unfold bne;rw[hb];rfl
      have Xy:Hid (gq has S.data.toList=.error (q5.e,q5.bad)):=by show _=_;rw[HR.out];exact CG.out.1 Fv
      have Xp:Hid (Keeps Non w w5):=⟨ng.out.os,ng.out.tape,ng.out.output,ng.out.size,fun k hk _=>ng.out.block k hk fun e=>by have h1:B≤k:=e;have:=HB.out;omega⟩
      clear Fv
      go_wp2_with fail
      go_quiet (fail)
      go_wp2_with fail
      go_ret3
      unfold og
      rw[Xy.out]
      exact⟨rfl,Xp.out.drewN _⟩
  ·obtain⟨f,rfl⟩:∃f',f=f'+1:=⟨f-1,by have:=zT.out.fuel;omega⟩
   have hst:=zT.out.stat
   rw[PD] at hst
   obtain⟨hs1,PK,PL⟩:=tX hst (NR.out.jR)
   obtain⟨q1,hq1⟩:∃q1,(aB S.data.toList [cO,iY] q).2=q1:=⟨_,rfl⟩
   obtain⟨y,hy⟩:∃y,(aB S.data.toList [cO,iY] q).1=y:=⟨_,rfl⟩
   rw[hq1,hy] at hs1
   rw[hq1,hy] at HW
   rw[hq1,hy] at PK PL
   have oI:=Lib.hid hs1
   have TK:=Lib.hid PK
   have Xz:=Lib.hid PL
   clear hst hs1 hq1 hy PK PL
   by_cases hyp:y=cO
   ·have hb0:(y==[112,97,116,104])=true:=by rw[hyp];rfl
    have hs1:=oI.out
    simp only[hyp,if_true] at hs1
    have HSP:=Lib.hid hs1
    clear hs1 oI
    go_wp2_with fail
    refine HW.out.mono ?_
    rintro e w4 ⟨rfl,h4,k4⟩
    have he1:q1.e=0:=Classical.byContradiction fun h=>by
     have h1:=Xz.out h
     rw[hyp] at h1
     cases h1
    have hinfo:=TK.out he1
    have JB:=Lib.hid h4
    have Gt:Hid (Keeps (Py B) w w4):=(pO.out.trans HA.out fun _ h=>h.elim).trans k4.Ur fun _ h=>.inl h
    have X8:Hid (Kp B jd wr w4):=(Kp.aI HA.out).trans k4.rt
    have JC:=Lib.hid (HIM.out.kp X8.out JB.out HG.out (fun x hx=>hx))
    have amI:q1.at'≤S.size:=by have:=JB.out.jR;rw[dlen] at this;exact this
    have amJ:q.at'+8≤q1.at':=hinfo.2.2
    have hfu:S.data.toList.length-q1.at'<f:=by have:=zT.out.fuel;rw[dlen] at this ⊢;omega
    have c1:w4.cell? ⟨B,1,none⟩=some (.int .i64 q1.at'):=JB.out.blk.cell 1
    have Ad:=Lib.hid (oV JB.out 12 (by omega))
    obtain⟨hs6,-⟩:=AZ HSP.out JB.out.jR
    have hpl:=xG S.data.toList 12 q1
    have aaf:=(lI S.data.toList 12 q1).2
    obtain⟨q6,hq6⟩:∃q6,(aV S.data.toList 12 q1).2=q6:=⟨_,rfl⟩
    obtain⟨p,hp⟩:∃p,(aV S.data.toList 12 q1).1=p:=⟨_,rfl⟩
    rw[hq6,hp] at Ad hs6
    rw[hq6] at aaf
    rw[hp] at hpl
    have Uf:=Lib.hid hs6
    clear h4 k4 HW HA pO NR HIM hyp X8 hinfo hs6 hq6 hp HSP TK Xz
    go_wp2_with fail
    refine Ad.out.mono ?_
    rintro e w6 ⟨rfl,h6,k6⟩
    have aiu:=h6.jR
    rw[dlen] at aiu
    have H6a:Hid (lF B B gy S.data.toList q6 (w6.alloc (.cells #[.string ⟨p.toArray⟩,.slice none 0 0,.slice none 0 0] FT)) vl):=h6.keeps ((Keeps.refl _ _).alloc _)
    have abt:Hid (Kp B jd w4 (w6.alloc (.cells #[.string ⟨p.toArray⟩,.slice none 0 0,.slice none 0 0] FT))):=k6.rt.trans (Kp.aI ((Keeps.refl _ _).alloc _))
    have HXB:Hid (aS (w6.alloc (.cells #[.string ⟨p.toArray⟩,.slice none 0 0,.slice none 0 0] FT)) w6.heap.size #[.string ⟨p.toArray⟩,.slice none 0 0,.slice none 0 0] FT):=aS.new _ _ _
    have OB:w4.heap.size≤w6.heap.size:=k6.size
    clear h6 k6 Ad c1 hb0
    go_upto_region 9 with(fail)
    obtain⟨w7,hw7⟩:∃w7,w6.alloc (.cells #[.string ⟨p.toArray⟩,.slice none 0 0,.slice none 0 0] FT)=w7:=⟨_,rfl⟩
    rw[hw7] at H6a abt HXB ⊢
    obtain⟨xb,hxb⟩:∃xb,w6.heap.size=xb:=⟨_,rfl⟩
    rw[hxb] at HXB OB ⊢
    clear hw7 hxb
    have hps:(⟨p.toArray⟩:ByteArray).size≤1099511627776:=by show p.toArray.size≤_;rw[List.size_toArray];omega
    have BZ:=Lib.hid (GU ⟨p.toArray⟩ w7 hps)
    have JD:w7.cell? ⟨xb,0,none⟩=some (.string ⟨p.toArray⟩):=HXB.out.cell 0
    go_upto_if 41 with(fail)
    refine BZ.out.mono ?_
    rintro e w8 ⟨rfl,rfl⟩
    try rw[show(⟨p.toArray⟩:ByteArray).data.toList=p from rfl]
    go_upto_if 41 with(fail)
    go_cut [] (fun wx=>Hid (lF B B gy S.data.toList (q6.aO (if fF p then 0 else 11) q1.at') wx vl)∧Hid (Kp B jd w7 wx))
    case first=>as_aux_lemma=>
     cases hpb:fF p with
     |true=>
      go_wp2_with fail
      go_meet
      rw[hpb]
      exact⟨H6a,Kp.refl _ _ _⟩
     |false=>
      go_wp2_with fail
      refine(dP H6a.out 11 _).mono ?_
      rintro e w9 ⟨rfl,h9,k9⟩
      have H9:=Lib.hid h9
      have K9:Hid (Kp B jd w7 w9):=k9.rt
      clear h9 k9
      go_wp2_with fail
      go_meet
      rw[hpb]
      exact⟨H9,K9⟩
    case rest=>as_aux_lemma=>
     obtain⟨H9,K9⟩:=hcut
     generalize wc=w9 at *
     have abu:=Lib.hid (HXB.out.kp K9.out (.inr (by decide)))
     have yF:=Lib.hid (abt.out.trans K9.out)
     have aeH:=Lib.hid (JC.out.kp yF.out H9.out HG.out (fun x hx=>hx))
     clear JD BZ H6a abt HXB K9
     have JD:w9.cell? ⟨xb,0,none⟩=some (.string ⟨p.toArray⟩):=abu.out.cell 0
     have Vx:kE w9 (fun k=>(G k∧k≠r)∨B≤k) came (.slice ca cn cc) T2:=aeH.out.c.q fun t ht=>(H9.out.kept t ht).1
     have HAT:=Lib.hid (Vx.at ⟨p.toArray⟩)
     rw[show(⟨p.toArray⟩:ByteArray).data.toList=p from rfl] at HAT
     clear Vx
     go_upto_if 49 with(fail)
     refine HAT.out.mono ?_
     rintro e w10 ⟨rfl,hk10⟩
     have Gi:=Lib.hid (H9.out.keeps hk10)
     have aag:=Lib.hid (abu.out.keeps hk10 fun h=>h)
     have Rt:=Lib.hid (yF.out.trans (Kp.aI hk10))
     clear hk10 HAT JD H9 abu yF aeH
     go_upto_if 49 with(fail)
     go_cut [] (fun wx=>Hid (lF B B gy S.data.toList ((q6.aO (if fF p then 0 else 11) q1.at').aO (if (aA came p).isSome then 7 else 0) q1.at') wx vl)∧Hid (Kp B jd w10 wx))
     case first=>as_aux_lemma=>
      rcases lN came p with⟨hf,hi⟩|⟨i,e,-,-,-,hi,-,hf⟩
      ·have hd:decide ((0:Int)≤ -1)=false:=by decide
       rw[hi]
       go_wp2_with fail
       go_meet
       rw[hf]
       exact⟨Gi,Kp.refl _ _ _⟩
      ·have hd:decide ((0:Int)≤(i:Int))=true:=decide_eq_true (by omega)
       rw[hi]
       go_wp2_with fail
       refine(dP Gi.out 7 _).mono ?_
       rintro e w11 ⟨rfl,h11,k11⟩
       have H11:=Lib.hid h11
       have K11:Hid (Kp B jd w10 w11):=k11.rt
       clear h11 k11
       go_wp2_with fail
       go_meet
       rw[hf]
       exact⟨H11,K11⟩
     case rest=>as_aux_lemma=>
      obtain⟨H11,K11⟩:=hcut
      generalize wc=w11 at *
      have aah:=Lib.hid (aag.out.kp K11.out (.inr (by decide)))
      have aeJ:=Lib.hid (Rt.out.trans K11.out)
      have hcm:came=x.came:=zT.out.cm
      have hft:(q6.aO (if fF p then 0 else 11) q1.at').aO (if (aA came p).isSome then 7 else 0) q1.at'=q6.aO (dG x p) q1.at':=by
       rw[zQ,hcm,Ns]
      rw[hft] at H11
      have hs11:Stat S.data.toList (q6.aO (dG x p) q1.at') R _:=A8 Uf.out
      rw[←IK q6 (dG x p) q1.at'] at hs11
      have Zn:=o7 q6 (dG x p) q1.at'
      obtain⟨q8,hq8⟩:∃q8,q6.aO (dG x p) q1.at'=q8:=⟨_,rfl⟩
      rw[hq8] at H11 hs11 Zn
      obtain⟨Fz,hwr⟩:=SI hs11 H11.out.jR
      have HTR:=Lib.hid (WA H11.out)
      obtain⟨q9,Af⟩:∃q9,pz S.data.toList q8=q9:=⟨_,rfl⟩
      rw[Af] at Fz hwr HTR
      have JE:=Lib.hid Fz
      have HWR:=Lib.hid hwr
      have HPE:Hid (q8.e=0→dG x p=0):=fun e=>(Zn.2.2 e).2
      have aeK:q6.at'≤q9.at':=by rw[←Af,←Zn.2.1];exact PI _ _
      clear hs11 Fz hwr Af hq8 hft Uf Gi aag Rt K11 hcm Zn hps
      go_wp2_with fail
      refine HTR.out.mono ?_
      rintro e w12 ⟨rfl,⟨MN,h12⟩,k12⟩
      have Y7:=Lib.hid h12
      have WE:=Lib.hid (aeJ.out.trans k12)
      have aai:=Lib.hid (aah.out.kp k12 (.inr (by decide)))
      clear h12 k12 HTR H11 aah aeJ
      have HMU:=Lib.hid (iE Y7.out ⟨#[114,101,102,115]⟩)
      obtain⟨abw,XA,-⟩:=tX JE.out Y7.out.jR
      have Zo:=bQ S.data.toList [fQ] q9
      go_wp2_with fail
      refine HMU.out.mono ?_
      rintro e w13 ⟨rfl,h13,k13⟩
      have h13:lF B B gy S.data.toList (aB S.data.toList [fQ] q9).2 w13 MN:=h13
      obtain⟨q10,hq10⟩:∃q10,(aB S.data.toList [fQ] q9).2=q10:=⟨_,rfl⟩
      rw[hq10] at h13 abw XA Zo
      have H13:=Lib.hid h13
      have aeL:=Lib.hid (WE.out.trans k13.rt)
      have aaj:=Lib.hid (aai.out.kp k13.rt (.inr (by decide)))
      have aeM:=Lib.hid abw
      have aiw:Hid (q1.at'≤q10.at'):=Nat.le_trans aaf (Nat.le_trans aeK Zo.2)
      have aeN:Hid (q10.e=0→bH q10.l= -1∧dG x p=0):=fun e=>by
       have h1:=(XA e).1
       have h2:=HWR.out h1
       rw[Zo.1]
       exact⟨h2.2,HPE.out h2.1⟩
      have aeO:q10.at'≤S.size:=by have:=H13.out.jR;rw[dlen] at this;exact this
      have aeP:Hid (q10.e=0→S.data.toList.length-q10.at'<(q10.rs S.data.toList).rest.length+1):=fun _=>by show _<(S.data.toList.drop q10.at').length+1;rw[List.length_drop];omega
      have aeQ:Hid (q1.at'≤q10.at'):=aiw.out
      have aak:Hid (Sl w13 xb 9 1 (.slice none 0 0) ([]:List (List UInt8)).length (bf [])):=Sl.nil _ _ _ _
      clear h13 k13 HMU Y7 aai WE abw XA Zo hq10 JE HWR HPE
      go_wp2_with fail
      go_loopg [] (S.size+1-q10.at') (fun gk wx=>∃(q':RQ) (refs:List (List UInt8)) (f':Nat) (ra:Option Addr) (rc:Nat),gk=S.size+1-q'.at'∧Hid (lF B B gy S.data.toList q' wx MN)∧Hid (Kp B jd w4 wx)∧Hid (aS wx xb #[.string ⟨p.toArray⟩,.slice none 0 0,.slice ra refs.length rc] FT)∧
       Hid (Sl wx xb 9 1 (.slice ra refs.length rc) refs.length (bf refs))∧Hid (q'.e=0→bH q'.l= -1∧dG x p=0)∧Hid (Stat S.data.toList q' R ((nU f' {x.start p with refs:=refs} (q'.rs S.data.toList)).bind (Nq f)))∧Hid (q'.e=0→S.data.toList.length-q'.at'<f')∧refs.length≤q'.at'∧Hid (∀y∈refs,y.length≤12)∧Hid (q'.e=0→dB refs=true∧∀y∈refs,y=p∨(aA x.has y).isSome=true∨(aA x.came y).isSome=true)∧Hid (q1.at'≤q'.at')∧q'.at'≤S.size)
      case atStart=>exact⟨q10,[],_,none,0,rfl,H13,aeL,aaj,aak,aeN,aeM,aeP,Nat.zero_le _,(fun y hy=>nomatch hy),(fun _=>⟨rfl,fun y hy=>nomatch hy⟩),aeQ,aeO⟩
      case round=>
       clear H13 aeL aaj aeM aeN aak
       obtain⟨q',refs,f',ra,rc,rfl,HRq,Yb,HXq,HSq,HTq,abx,HFq,hrl,Zp,aby,abz,hatq'⟩:=hrel
       have hargs:Sl (wr.alloc (.cells #[.string ⟨#[114,101,102]⟩,.string ⟨#[115,117,109]⟩] 9)) 0 9 1 (.slice (some ⟨wr.heap.size,0,none⟩) 2 2) 2 (bf [iO,jf]):=aP wr 2 _ [iO,jf] _ rfl rfl rfl (by simp)
       have HW:=Lib.hid (qC (HRq.out.keeps ((Keeps.refl _ _).alloc (.cells #[.string ⟨#[114,101,102]⟩,.string ⟨#[115,117,109]⟩] 9))) [iO,jf] _ hargs)
       have HA:Hid (Keeps Non wr (wr.alloc (.cells #[.string ⟨#[114,101,102]⟩,.string ⟨#[115,117,109]⟩] 9))):=(Keeps.refl _ _).alloc _
       clear hargs
       obtain⟨f'',hst,hfu'⟩:∃f'',Stat S.data.toList q' R ((nU (f''+1) {x.start p with refs:=refs} (q'.rs S.data.toList)).bind (Nq f))∧(q'.e=0→S.data.toList.length-q'.at'<f''+1):=by
        by_cases he:q'.e=0
        ·have h1:=HFq.out he
         obtain⟨k,rfl⟩:∃k,f'=k+1:=⟨f'-1,by omega⟩
         exact⟨k,abx.out,HFq.out⟩
        ·exact⟨0,⟨fun e=>absurd e he,abx.out.2⟩,fun e=>absurd e he⟩
       rw[Nr] at hst
       obtain⟨hs1,PK,PL⟩:=tX hst (HRq.out.jR)
       have hla:=bQ S.data.toList [iO,jf] q'
       obtain⟨q11,hq11⟩:∃q11,(aB S.data.toList [iO,jf] q').2=q11:=⟨_,rfl⟩
       obtain⟨y2,hy2⟩:∃y2,(aB S.data.toList [iO,jf] q').1=y2:=⟨_,rfl⟩
       rw[hq11,hy2] at hs1
       rw[hq11,hy2] at HW
       rw[hq11,hy2] at PK
       rw[hq11,hy2] at PL
       rw[hq11] at hla
       have oI:=Lib.hid hs1
       have TK:=Lib.hid PK
       have Xz:=Lib.hid PL
       have ZT:=Lib.hid hla
       have HFU:=Lib.hid hfu'
       clear hst hs1 hq11 hy2 PK PL hla hfu' abx HFq
       by_cases hyp:y2=iO
       ·
        as_aux_lemma=>
         have hb0:(y2==[114,101,102])=true:=by rw[hyp];rfl
         have hs1:=oI.out
         simp only[hyp,if_true] at hs1
         have HSP:=Lib.hid hs1
         have aiz:q11.e=0:=Classical.byContradiction fun h=>by
          have h1:=Xz.out h
          rw[hyp] at h1
          cases h1
         have aiA:=Lib.hid (TK.out aiz)
         clear hs1 oI
         go_wp2_with fail
         refine HW.out.mono ?_
         rintro e w14 ⟨rfl,h14,k14⟩
         have JF:=Lib.hid h14
         have yN:Hid (Kp B jd wr w14):=(Kp.aI HA.out).trans k14.rt
         have XB:=Lib.hid (Yb.out.trans yN.out)
         have XC:=Lib.hid (HXq.out.kp yN.out (.inr (by decide)))
         have Ny:=Lib.hid (HSq.out.kp yN.out (.inl (by decide)))
         have c1:w14.cell? ⟨B,1,none⟩=some (.int .i64 q11.at'):=JF.out.blk.cell 1
         have Ad:=Lib.hid (oV JF.out 12 (by omega))
         obtain⟨Fz,-⟩:=AZ HSP.out JF.out.jR
         have hpl2:=xG S.data.toList 12 q11
         have zU:=lI S.data.toList 12 q11
         obtain⟨q12,hq12⟩:∃q12,(aV S.data.toList 12 q11).2=q12:=⟨_,rfl⟩
         obtain⟨t,ht⟩:∃t,(aV S.data.toList 12 q11).1=t:=⟨_,rfl⟩
         rw[hq12,ht] at Ad Fz
         rw[ht] at hpl2
         rw[hq12] at zU
         have JE:=Lib.hid Fz
         have IL:=Lib.hid zU
         clear h14 k14 HW HA Yb HXq HSq Fz hq12 ht HSP hyp yN zU
         go_wp2_with fail
         refine Ad.out.mono ?_
         rintro e Gu ⟨rfl,h15,k15⟩
         have FB:=Lib.hid h15
         have PN:=Lib.hid (XB.out.trans k15.rt)
         have FC:=Lib.hid (XC.out.kp k15.rt (.inr (by decide)))
         have FD:=Lib.hid (Ny.out.kp k15.rt (.inl (by decide)))
         clear h15 k15 Ad JF XB XC Ny c1
         have JD:Gu.cell? ⟨xb,0,none⟩=some (.string ⟨p.toArray⟩):=FC.out.cell 0
         have SN:Gu.cell? ⟨xb,2,none⟩=some (.slice ra refs.length rc):=FC.out.cell 2
         have hrl2:refs.length≤549755813888:=by omega
         go_upto_region 19 with(fail)
         go_cut [81] (fun hv wx=>hv=.bool (!iZ refs t)∧Gu=wx)
         case first=>as_aux_lemma=>
          rcases List.eq_nil_or_concat refs with hnil|⟨l,u,hcon⟩
          ·have xJ:Hid (iZ refs t=true):=by show _=_;rw[hnil];rfl
           have hl0:refs.length=0:=by rw[hnil];rfl
           have e4:decide ((0:Int)<(refs.length:Int))=false:=decide_eq_false (by omega)
           have e5:decide (0<refs.length)=false:=decide_eq_false (by omega)
           clear hnil hl0
           go_wp2_with fail
           go_meet
           rw[xJ.out]
           exact⟨rfl,rfl⟩
          ·rw[List.concat_eq_append] at hcon
           have hl1:refs.length=l.length+1:=by rw[hcon];simp
           have xJ:Hid (iZ refs t=Op.bytesLess u t):=by show _=_;rw[hcon];simp[iZ]
           have hsl:=FD.out
           rw[hl1] at hsl
           obtain⟨rb,ro,cap,hsh,-,-,-,hbl,hcc,-⟩:=hsl.pos (by omega)
           cases hsh
           have d1:Gu.cell? ⟨rb,ro+l.length,none⟩=some (sv u):=by
            rw[hcc l.length (by omega),hcon]
            simp[bf]
           obtain⟨m,hm⟩:∃m,l.length=m:=⟨_,rfl⟩
           rw[hm] at d1 hl1
           have e1:IntKind.i64.wrap ((refs.length:Int)-1)=(m:Int):=by rw[IntWalk.i64_in _ (by omega)];omega
           have e2:(0:Int)≤(m:Int):=by omega
           have e3:(m:Int)<(refs.length:Int):=by omega
           have e4:decide ((0:Int)<(refs.length:Int))=true:=decide_eq_true (by omega)
           have e5:decide (0<refs.length)=true:=decide_eq_true (by omega)
           have e6:m<refs.length:=by omega
           unfold sv at d1
           clear hsl hcc hcon hl1 hm
           have hl3:=wR t u
           rw[pY] at hl3
           cases hl:Op.bytesLess u t with
           |true=>
            rw[hl] at hl3
            have hl2:(Op.bytesLess t u||t==u)=false:=hl3
            go_wp2_with fail
            go_meet
            rw[xJ.out,hl]
            exact⟨rfl,rfl⟩
           |false=>
            rw[hl] at hl3
            have hl2:(Op.bytesLess t u||t==u)=true:=hl3
            go_wp2_with fail
            go_meet
            rw[xJ.out,hl]
            exact⟨rfl,rfl⟩
         case rest=>as_aux_lemma=>
          obtain⟨rfl,rfl⟩:=hcut
          go_upto_if 81 with(fail)
          go_cut [] (fun wx=>Hid (lF B B gy S.data.toList (q12.aO (if iZ refs t then 0 else 7) q11.at') wx MN)∧Hid (Kp B jd Gu wx))
          case first=>as_aux_lemma=>
           cases hris:iZ refs t with
           |true=>
            go_wp2_with fail
            go_meet
            rw[hris]
            exact⟨FB,Kp.refl _ _ _⟩
           |false=>
            go_wp2_with fail
            refine(dP FB.out 7 _).mono ?_
            rintro e w16 ⟨rfl,h16,k16⟩
            have H16:=Lib.hid h16
            have K16:Hid (Kp B jd Gu w16):=k16.rt
            clear h16 k16
            go_wp2_with fail
            go_meet
            rw[hris]
            exact⟨H16,K16⟩
          case rest=>as_aux_lemma=>
           obtain⟨Nz,K16⟩:=hcut
           generalize wc=w16 at *
           have TL:=Lib.hid (PN.out.trans K16.out)
           have PO:=Lib.hid (FC.out.kp K16.out (.inr (by decide)))
           have NC:=Lib.hid (FD.out.kp K16.out (.inl (by decide)))
           have aal:=Lib.hid (JC.out.kp TL.out Nz.out HG.out (fun x hx=>hx))
           clear FB PN FC FD K16 JD SN
           have JD:w16.cell? ⟨xb,0,none⟩=some (.string ⟨p.toArray⟩):=PO.out.cell 0
           have Cc:kE w16 (fun k=>(G k∧k≠r)∨B≤k) L (.slice la ln lc) T:=aal.out.l.q fun u hu=>(Nz.out.kept u hu).1
           have HAT:=Lib.hid (Cc.at ⟨t.toArray⟩)
           rw[show(⟨t.toArray⟩:ByteArray).data.toList=t from rfl] at HAT
           clear Cc
           go_upto_region 21 with(fail)
           go_cut [94] (fun hv wx=>hv=.bool (decide (t≠p∧aA L t=none))∧Hid (Keeps Non w16 wx))
           case first=>as_aux_lemma=>
            by_cases htp:t=p
            ·have hb1:(t==p)=true:=by rw[htp];exact beq_self_eq_true _
             have hb2:(t !=p)=false:=by unfold bne;rw[hb1];rfl
             have hb3:(!t==p)=false:=by rw[hb1];rfl
             have hd:decide (t≠p∧aA L t=none)=false:=decide_eq_false fun h=>h.1 htp
             clear htp
             go_wp2_with fail
             go_meet
             rw[hd]
             exact⟨rfl,Keeps.refl _ _⟩
            ·have hb1:(t==p)=false:=by rw[beq_eq_false_iff_ne];exact htp
             have hb2:(t !=p)=true:=by unfold bne;rw[hb1];rfl
             have hb3:(!t==p)=true:=by rw[hb1];rfl
             rcases lN L t with⟨hf,hi⟩|⟨i,e,-,-,-,hi,-,hf⟩
             ·have hd:decide (t≠p∧aA L t=none)=true:=decide_eq_true ⟨htp,hf⟩
              rw[hi] at HAT
              clear htp hf
              go_wp2_with fail
              refine HAT.out.mono ?_
              rintro e w17 ⟨rfl,TM⟩
              go_wp2_with fail
              go_meet
              rw[hd]
              exact⟨rfl,TM⟩
             ·have hd:decide (t≠p∧aA L t=none)=false:=decide_eq_false fun h=>by rw[h.2] at hf;cases hf
              have hdi:decide ((i:Int)<0)=false:=decide_eq_false (by omega)
              rw[hi] at HAT
              clear htp hf
              go_wp2_with fail
              refine HAT.out.mono ?_
              rintro e w17 ⟨rfl,TM⟩
              go_wp2_with fail
              go_meet
              rw[hd]
              exact⟨rfl,TM⟩
           case rest=>as_aux_lemma=>
            obtain⟨rfl,HKC⟩:=hcut
            generalize wc=w17 at *
            have abA:=Lib.hid (Nz.out.keeps HKC.out)
            have aeU:=Lib.hid (TL.out.trans (Kp.aI HKC.out))
            have aeV:=Lib.hid (PO.out.keeps HKC.out fun h=>h)
            have aam:=Lib.hid (NC.out.kp (Kp.aI (B:=0) (Ts:=[]) HKC.out) (.inl (by simp)))
            clear Nz TL PO NC aal HAT JD HKC
            go_upto_if 94 with(fail)
            go_cut [] (fun wx=>Hid (lF B B gy S.data.toList ((q12.aO (if iZ refs t then 0 else 7) q11.at').aO (if t=p∨(aA L t).isSome=true then 0 else 13) q11.at') wx MN)∧Hid (Kp B jd w17 wx))
            case first=>as_aux_lemma=>
             by_cases hc:t≠p∧aA L t=none
             ·have hd:decide (t≠p∧aA L t=none)=true:=decide_eq_true hc
              have hif:(if t=p∨(aA L t).isSome=true then (0:Int) else 13)=13:=if_neg fun h=>by
               rcases h with h|h
               ·exact hc.1 h
               ·rw[hc.2] at h;cases h
              rw[hd]
              clear hc hd
              go_wp2_with fail
              refine(dP abA.out 13 _).mono ?_
              rintro e Zq ⟨rfl,h18,k18⟩
              have H18:=Lib.hid h18
              have K18:Hid (Kp B jd w17 Zq):=k18.rt
              clear h18 k18
              go_wp2_with fail
              go_meet
              rw[hif]
              exact⟨H18,K18⟩
             ·have hd:decide (t≠p∧aA L t=none)=false:=decide_eq_false hc
              have hif:(if t=p∨(aA L t).isSome=true then (0:Int) else 13)=0:=if_pos (by
               by_cases h1:t=p
               ·exact .inl h1
               ·right
                cases h2:aA L t with
                |none=>exact absurd ⟨h1,h2⟩ hc
                |some _=>rfl)
              rw[hd]
              clear hc hd
              go_wp2_with fail
              go_meet
              rw[hif]
              exact⟨abA,Kp.refl _ _ _⟩
            case rest=>as_aux_lemma=>
             obtain⟨ND,K18⟩:=hcut
             generalize wc=Zq at *
             have XD:=Lib.hid (aeU.out.trans K18.out)
             have PS:=Lib.hid (aeV.out.kp K18.out (.inr (by decide)))
             have NG:=Lib.hid (aam.out.kp K18.out (.inl (by decide)))
             clear abA aeU aeV aam K18
             have hbi:(aA L t).isSome=true↔(aA x.has t).isSome=true∨(aA x.came t).isSome=true:=by
              have h1:=(tK zT.out.ok x.came.length (Nat.le_refl _)).some t
              rw[List.take_length,zT.out.hs,←zT.out.l] at h1
              rw[zT.out.hs]
              exact h1
             have hft:(q12.aO (if iZ refs t then 0 else 7) q11.at').aO (if t=p∨(aA L t).isSome=true then 0 else 13) q11.at'=q12.aO (eY {x.start p with refs:=refs} t) q11.at':=by
              rw[zQ]
              have h1:=PE {x.start p with refs:=refs} t (aA L t).isSome hbi
              rw[←h1]
              rfl
             rw[hft] at ND
             have Zr:Stat S.data.toList (q12.aO (eY {x.start p with refs:=refs} t) q11.at') R _:=A8 JE.out
             rw[←IK q12 (eY {x.start p with refs:=refs} t) q11.at'] at Zr
             have FH:=o7 q12 (eY {x.start p with refs:=refs} t) q11.at'
             obtain⟨q13,TP⟩:∃q13,q12.aO (eY {x.start p with refs:=refs} t) q11.at'=q13:=⟨_,rfl⟩
             rw[TP] at ND Zr FH
             have aiB:=Lib.hid Zr
             have aeW:=Lib.hid FH
             clear hft Zr FH TP hbi
             have SN:Zq.cell? ⟨xb,2,none⟩=some (.slice ra refs.length rc):=PS.out.cell 2
             have acU:=PS.out.lt
             have hsl:=NG.out
             obtain⟨i0,hi,hi0,hi1,hi2⟩:=info_parts wK
             go_wp2_with (at_builtin;refine ay rfl _ _ 26 26 rfl 9 i0 _ 1 16 Tryz.underlying26 hi hi0 hi1 hi2 rfl xb _ _ _ rfl _ rfl 1 [.string ⟨t.toArray⟩] ?d11 (hsl.alloc _) ?d12 ?d13 ?Gg ?_)
             case d11=>first|omega|(simp;omega)
             case d12=>exact Src.kP Tryz.underlying26 (Sl.dM Zq 0 (Nat.zero_le _) 9 1 1 [.string ⟨t.toArray⟩] rfl (by simp[maxLen])) (by intro u hu;simp only[List.mem_cons,List.not_mem_nil,or_false] at hu;rcases hu with rfl;rfl)
             case d13=>unfold maxLen;omega
             case Gg=>omega
             intro ao cc Us aeX Zt aeY aiC
             have hka:Keeps Non Zq (Zq.alloc (.cells #[.string ⟨t.toArray⟩] 9)):=(Keeps.refl _ _).alloc _
             have XE:=(PS.out.keeps hka fun h=>h).kp Zt (.inr (by decide))
             have cx2':Us.cell? ⟨xb,2,none⟩=some (.slice ra refs.length rc):=XE.cell 2
             have fx2:=XE.free 2
             have hset:Kp xb [FT] Us (Us.setCell ⟨xb,2,none⟩ (.slice ao (refs.length+1) cc)):=(Kp.refl _ _ _).set XE (.inr ⟨Nat.le_refl _,by simp⟩) _ _
             have FI:Hid (lF B B gy S.data.toList q13 (Us.setCell ⟨xb,2,none⟩ (.slice ao (refs.length+1) cc)) MN):=((ND.out.keeps hka).kpq Zt (by decide) (by decide)).kpq hset (by decide) (by decide)
             have JG:Hid (aS (Us.setCell ⟨xb,2,none⟩ (.slice ao (refs.length+1) cc)) xb #[.string ⟨p.toArray⟩,.slice none 0 0,.slice ao (refs.length+1) cc] FT):=XE.set 2 _
             have FK:Hid (Sl (Us.setCell ⟨xb,2,none⟩ (.slice ao (refs.length+1) cc)) xb 9 1 (.slice ao (refs++[t]).length cc) (refs++[t]).length (bf (refs++[t]))):=by
              show Sl _ _ _ _ _ _ _
              rw[List.length_append,List.length_singleton]
              have e1:bf (refs++[t])=bf refs++[.string ⟨t.toArray⟩]:=by simp[bf,sv]
              rw[e1]
              exact aeX.kp hset (.inl (by decide))
             have TU:Hid (Kp B jd w4 (Us.setCell ⟨xb,2,none⟩ (.slice ao (refs.length+1) cc))):=((XD.out.trans (Kp.aI hka)).trans' Zt (.inl OB)).trans' hset (.inl OB)
             clear aeX Zt aeY aiC hka XE hset hsl hi hi0 hi1 hi2 ND XD PS NG SN
             go_wp2_with fail
             have hla:=ZT.out
             have zU:=IL.out
             have FH:=aeW.out
             have Zu:=aiA.out
             go_roundg (S.size+1-q13.at')
             case measure=>omega
             case rel=>
              refine⟨q13,refs++[t],f'',ao,cc,rfl,FI,TU,?_,FK,?_,aiB,?_,?_,?_,?_,?_,?_⟩
              ·rw[List.length_append,List.length_singleton];exact JG
              ·intro e
               have h1:=FH.2.2 e
               rw[FH.1,zU.1,hla.1]
               exact HTq.out Zu.1
              ·intro e
               have h1:=HFU.out Zu.1
               have h2:=FI.out.jR
               have h3:=Zu.2.2
               show _<_
               omega
              ·rw[List.length_append,List.length_singleton];omega
              ·intro u hu
               rcases List.mem_append.1 hu with hu|hu
               ·exact Zp.out u hu
               ·obtain rfl:=List.mem_singleton.1 hu
                exact hpl2
              ·intro e
               have h1:=FH.2.2 e
               obtain⟨g1,g2⟩:=BM h1.2
               obtain⟨g3,g4⟩:=aby.out Zu.1
               refine⟨wC g3 g1,fun u hu=>?_⟩
               rcases List.mem_append.1 hu with hu|hu
               ·exact g4 u hu
               ·obtain rfl:=List.mem_singleton.1 hu
                exact g2
              ·have h1:=abz.out
               show _≤_
               omega
              ·have h1:=FI.out.jR
               rw[dlen] at h1
               exact h1
       ·have hb0:(y2==[114,101,102])=false:=by rw[beq_eq_false_iff_ne];exact hyp
        have hs1:=oI.out
        rw[if_neg (by exact hyp)] at hs1
        have HSP:Hid (Stat S.data.toList q11 R (Nq f ({x.start p with refs:=refs},q11.rs S.data.toList))):=hs1
        clear hs1 oI
        go_wp2_with fail
        refine HW.out.mono ?_
        rintro e w14 ⟨rfl,h14,k14⟩
        have JF:=Lib.hid h14
        have yN:Hid (Kp B jd wr w14):=(Kp.aI HA.out).trans k14.rt
        have XB:=Lib.hid (Yb.out.trans yN.out)
        have XC:=Lib.hid (HXq.out.kp yN.out (.inr (by decide)))
        have Ny:=Lib.hid (HSq.out.kp yN.out (.inl (by decide)))
        have c1:w14.cell? ⟨B,1,none⟩=some (.int .i64 q11.at'):=JF.out.blk.cell 1
        have Ad:=Lib.hid (oV JF.out 8 (by omega))
        obtain⟨Fz,XF⟩:=AZ HSP.out JF.out.jR
        have zU:=lI S.data.toList 8 q11
        obtain⟨q12,hq12⟩:∃q12,(aV S.data.toList 8 q11).2=q12:=⟨_,rfl⟩
        obtain⟨t,ht⟩:∃t,(aV S.data.toList 8 q11).1=t:=⟨_,rfl⟩
        rw[hq12,ht] at Ad Fz
        rw[hq12] at zU XF
        have JE:=Lib.hid Fz
        have XG:=Lib.hid XF
        have IL:=Lib.hid zU
        clear h14 k14 HW HA Yb HXq HSq Fz hq12 ht HSP hyp yN zU XF
        go_wp2_with fail
        refine Ad.out.mono ?_
        rintro e Gu ⟨rfl,h15,k15⟩
        have FB:=Lib.hid h15
        have PN:=Lib.hid (XB.out.trans k15.rt)
        have FC:=Lib.hid (XC.out.kp k15.rt (.inr (by decide)))
        have FD:=Lib.hid (Ny.out.kp k15.rt (.inl (by decide)))
        have c2:Gu.cell? ⟨B,2,none⟩=some (.int .i64 q12.e):=FB.out.blk.cell 2
        clear h15 k15 Ad JF XB XC Ny c1
        by_cases PU:q12.e=0
        ·have hb1:(q12.e==0)=true:=by rw[PU];rfl
         have hb2:(q12.e !=0)=false:=by rw[PU];rfl
         have h11:=XG.out PU
         have hq':=TK.out h11.1
         have htw:=HTq.out hq'.1
         have hwr:bH q12.l= -1:=by rw[IL.out.1,ZT.out.1];exact htw.1
         obtain⟨kJ,kK,rfl,-,-⟩:=FB.out.nodes.shape
         have cl:Gu.cell? ⟨B,4,none⟩=some (.slice kJ q12.l.length kK):=FB.out.blk.cell 4
         have SL:Gu.cell? ⟨xb,1,none⟩=some (.slice none 0 0):=FC.out.cell 1
         have fx1:=FC.out.free 1
         have hset:Kp xb [FT] Gu (Gu.setCell ⟨xb,1,none⟩ (.slice kJ q12.l.length kK)):=(Kp.refl _ _ _).set FC.out (.inr ⟨Nat.le_refl _,by simp⟩) _ _
         have NH:=FB.out.kpq hset (by decide) (by decide)
         have Nz:Hid (lF B B (gy++[(.slice kJ q12.l.length kK,q12.l)]) S.data.toList q12 (Gu.setCell ⟨xb,1,none⟩ (.slice kJ q12.l.length kK)) (.slice kJ q12.l.length kK)):=⟨NH.blk,NH.le,NH.nodes,NH.small,NH.jR,fun u hu=>by
          rcases List.mem_append.1 hu with hu|hu
          ·exact NH.kept u hu
          ·obtain rfl:=List.mem_singleton.1 hu
           exact⟨NH.nodes,yI _ _⟩⟩
         have PO:Hid (aS (Gu.setCell ⟨xb,1,none⟩ (.slice kJ q12.l.length kK)) xb #[.string ⟨p.toArray⟩,.slice kJ q12.l.length kK,.slice ra refs.length rc] FT):=FC.out.set 1 _
         have NC:=Lib.hid (FD.out.kp hset (.inl (by decide)))
         have TL:Hid (Kp B jd w4 (Gu.setCell ⟨xb,1,none⟩ (.slice kJ q12.l.length kK))):=PN.out.trans' hset (.inl OB)
         have PV:=Lib.hid hwr
         clear hwr
         have FN:Hid (dG x p=0∧dB refs=true∧(∀y∈refs,y=p∨(aA x.has y).isSome=true∨(aA x.came y).isSome=true)):=⟨htw.2,aby.out hq'.1⟩
         have aan:Hid (q1.at'+8≤q12.at'):=by
          have h1:=abz.out
          have h2:=hq'.2.2
          have h3:=IL.out.2
          show _≤_
          omega
         go_upto_region 28 with(fail)
         generalize Gu.setCell ⟨xb,1,none⟩ (.slice kJ q12.l.length kK)=w16 at *
         clear hset NH FB PN FC FD h11 hq' htw c2 cl SL fx1 hb1 hb2 HTq aby TK XG IL ZT abz HFU Xz
         have SL:w16.cell? ⟨xb,1,none⟩=some (.slice kJ q12.l.length kK):=PO.out.cell 1
         obtain⟨amN,aiD,amO⟩:=nI PV.out
         have vF:=Lib.hid (sO _ q12.l w16 Nz.out.nodes.rd (BO PV.out) PV.out (by omega))
         have hps:(⟨(aJ q12.l).toArray⟩:ByteArray).size≤maxLen:=by
          show(aJ q12.l).toArray.size≤maxLen
          rw[List.size_toArray]
          unfold maxLen
          omega
         obtain⟨SU,hSU⟩:∃SU,sumOf (aJ q12.l)=SU:=⟨_,rfl⟩
         have HSU:=Lib.hid hSU
         have Jc:Hid (∀wx,Calls Tryz.prog 107 #[.string ⟨(aJ q12.l).toArray⟩] wx fun e w'=>e=.returned (.string SU)∧Keeps Non wx w'):=fun wx=>by
          have h1:=DK ⟨(aJ q12.l).toArray⟩ wx hps
          rw[show(⟨(aJ q12.l).toArray⟩:ByteArray).data.toList=aJ q12.l from rfl,hSU] at h1
          exact h1
         clear hSU hps aiD
         go_upto_if 125 with(fail)
         refine vF.out.mono ?_
         rintro e w17 ⟨rfl,TM⟩
         have aeZ:Hid (Keeps Non w16 w17):=TM
         clear TM vF SL
         go_upto_if 125 with(fail)
         refine(Jc.out _).mono ?_
         rintro e Zq ⟨rfl,ae0⟩
         have XH:=Lib.hid (aeZ.out.tn ae0)
         clear ae0 Jc aeZ
         go_upto_if 125 with(fail)
         have ND:=Lib.hid (Nz.out.keeps XH.out)
         have PS:=Lib.hid (PO.out.keeps XH.out fun h=>h)
         have NG:=Lib.hid (NC.out.kp (Kp.aI (B:=0) (Ts:=[]) XH.out) (.inl (by simp)))
         have XD:=Lib.hid (TL.out.trans (Kp.aI XH.out))
         clear Nz PO NC TL XH
         go_cut [] (fun wx=>Hid (lF B B (gy++[(.slice kJ q12.l.length kK,q12.l)]) S.data.toList (q12.aO (if t≠SU.data.toList then 16 else 0) q11.at') wx (.slice kJ q12.l.length kK))∧Hid (Kp B jd Zq wx))
         case first=>as_aux_lemma=>
          by_cases hsu:t=SU.data.toList
          ·have hb1:(!t==SU.toList)=false:=by rw[ByteArray.toList_eq,hsu];simp
           have hif:(if t≠SU.data.toList then (16:Int) else 0)=0:=if_neg (by simp[hsu])
           rw[hb1]
           clear hsu
           go_wp2_with fail
           go_meet
           rw[hif]
           exact⟨ND,Kp.refl _ _ _⟩
          ·have hb1:(!t==SU.toList)=true:=by rw[ByteArray.toList_eq];simpa using hsu
           have hif:(if t≠SU.data.toList then (16:Int) else 0)=16:=if_pos hsu
           rw[hb1]
           clear hsu
           go_wp2_with fail
           refine(dP ND.out 16 _).mono ?_
           rintro e Us ⟨rfl,h19,k19⟩
           have H19:=Lib.hid h19
           have K19:Hid (Kp B jd Zq Us):=k19.rt
           clear h19 k19
           go_wp2_with fail
           go_meet
           rw[hif]
           exact⟨H19,K19⟩
         case rest=>as_aux_lemma=>
          obtain⟨XI,K19⟩:=hcut
          generalize wc=Us at *
          have abB:=Lib.hid (PS.out.kp K19.out (.inr (by decide)))
          have aao:=Lib.hid (NG.out.kp K19.out (.inl (by decide)))
          have abC:=Lib.hid (XD.out.trans K19.out)
          have BU:=Lib.hid (JC.out.kp abC.out XI.out HG.out (fun u hu=>List.mem_append.2 (.inl hu)))
          clear ND PS NG XD K19
          obtain⟨q13,TP⟩:∃q13,q12.aO (if t≠SU.data.toList then 16 else 0) q11.at'=q13:=⟨_,rfl⟩
          rw[TP] at XI BU
          have ae1:=Lib.hid TP
          clear TP
          have hln:ln=L.length:=by
           obtain⟨a9,c9,e9,-,-⟩:=BU.out.l.sl.shape
           cases e9
           exact BU.out.l.len
          subst hln
          have hcn:cn=T2.length:=by
           obtain⟨a9,c9,e9,-,-⟩:=BU.out.c.sl.shape
           cases e9
           rfl
          subst hcn
          have hfn:fn=fresh.length:=by
           obtain⟨a9,c9,e9,-,-⟩:=BU.out.f.shape
           cases e9
           rfl
          subst hfn
          have JD:Us.cell? ⟨xb,0,none⟩=some (.string ⟨p.toArray⟩):=abB.out.cell 0
          have Cc:kE Us (fun k=>(G k∧k≠r)∨B≤k) L (.slice la L.length lc) T:=BU.out.l.q fun u hu=>(XI.out.kept u hu).1
          have HAT:=Lib.hid (Cc.at ⟨p.toArray⟩)
          rw[show(⟨p.toArray⟩:ByteArray).data.toList=p from rfl] at HAT
          have aiF:Hid (L.length≤10):=by
           have h1:=(tK zT.out.ok x.came.length (Nat.le_refl _)).ok.ten
           rw[List.take_length,zT.out.hs,←zT.out.l] at h1
           exact h1
          clear Cc
          go_upto_region 31 with(fail)
          refine HAT.out.mono ?_
          rintro e NS ⟨rfl,TV⟩
          have FI:=Lib.hid (XI.out.keeps TV)
          have JG:=Lib.hid (abB.out.keeps TV fun h=>h)
          have FK:=Lib.hid (aao.out.kp (Kp.aI (B:=0) (Ts:=[]) TV) (.inl (by simp)))
          have TU:=Lib.hid (abC.out.trans (Kp.aI TV))
          have zV:=Lib.hid (BU.out.kp (Kp.aI TV) FI.out HG.out (fun u hu=>hu))
          clear TV HAT JD XI abB aao abC BU
          rcases lN L p with⟨hf,hi⟩|⟨i,o,hLi,hol,hop,hi,hil,hf⟩
          ·rw[hi]
           have wX:=Lib.hid hf
           have hd0:decide ((0:Int)≤ -1)=false:=by decide
           have hd1:decide ((-1:Int)<0)=true:=by decide
           clear hi hf
           go_upto_region 31 with(fail)
           go_cut [143] (fun v wx=>v=.bool false∧∃n,wx=NS.drewN n)
           case first=>as_aux_lemma=>
            go_quiet (fail)
            go_wp2_with fail
            go_meet
            exact⟨rfl,_,rfl⟩
           case rest=>as_aux_lemma=>
            obtain⟨rfl,nz,rfl⟩:=hcut
            have hkz:Keeps Non NS (NS.drewN nz):=(Keeps.refl _ _).drewN nz
            have JH:=Lib.hid (FI.out.keeps hkz)
            have XJ:=Lib.hid (JG.out.keeps hkz fun h=>h)
            have NI:=Lib.hid (FK.out.drewN nz)
            have XK:=Lib.hid (TU.out.trans (Kp.aI hkz))
            have NJ:=Lib.hid (zV.out.kp (Kp.aI hkz) JH.out HG.out (fun u hu=>hu))
            clear hkz FI JG FK TU zV
            generalize NS.drewN nz=w21 at *
            go_upto_if 153 with(fail)
            go_cut [] (fun wx=>Hid (lF B B (gy++[(.slice kJ q12.l.length kK,q12.l)]) S.data.toList (q13.aO (if L.length=10 then 14 else 0) q11.at') wx (.slice kJ q12.l.length kK))∧Hid (Kp B jd w21 wx))
            case first=>as_aux_lemma=>
             by_cases h10:L.length=10
             ·have hb1:((L.length:Int)==10)=true:=by rw[h10];rfl
              have hif:(if L.length=10 then (14:Int) else 0)=14:=if_pos h10
              rw[hb1]
              clear h10
              go_wp2_with fail
              refine(dP JH.out 14 _).mono ?_
              rintro e Gv ⟨rfl,h22,k22⟩
              have H22:=Lib.hid h22
              have K22:Hid (Kp B jd w21 Gv):=k22.rt
              clear h22 k22
              go_wp2_with fail
              go_meet
              rw[hif]
              exact⟨H22,K22⟩
             ·have hb1:((L.length:Int)==10)=false:=by rw[beq_eq_false_iff_ne];omega
              have hif:(if L.length=10 then (14:Int) else 0)=0:=if_neg h10
              rw[hb1]
              clear h10
              go_wp2_with fail
              go_meet
              rw[hif]
              exact⟨JH,Kp.refl _ _ _⟩
            case rest=>as_aux_lemma=>
             obtain⟨PW,K22⟩:=hcut
             generalize wc=Gv at *
             have JI:=Lib.hid (XJ.out.kp K22.out (.inr (by decide)))
             have IQ:=Lib.hid (NI.out.kp K22.out (.inl (by decide)))
             have abE:=Lib.hid (XK.out.trans K22.out)
             have FP:=Lib.hid (NJ.out.kp K22.out PW.out HG.out (fun u hu=>hu))
             have hB4:B≤w4.heap.size:=by have h1:=JB.out.le;have h2:=JB.out.blk.lt;omega
             clear JH XJ NI XK NJ K22
             have XL:Gs Gv B (fun k=>G k∧k≠r) (gy++[(.slice kJ q12.l.length kK,q12.l)]) ⟨p,q12.l,refs⟩ (.string ⟨p.toArray⟩,.slice kJ q12.l.length kK,.slice ra refs.length rc):=⟨rfl,.inr (List.mem_append.2 (.inr (List.mem_singleton.2 rfl))),.inr (IQ.out.mono (by omega))⟩
             have abG:=Lib.hid XL
             have Wn:Hid (∀k,(Value.slice ra refs.length rc).ownBlock=some k→(Value.slice fa fresh.length fc).ownBlock≠some k):=fun k hk e=>by
              have h1:=(IQ.out.own k hk).1
              have h2:=(JC.out.f.own k e).2
              omega
             have JD:Gv.cell? ⟨xb,0,none⟩=some (.string ⟨p.toArray⟩):=JI.out.cell 0
             have SL:Gv.cell? ⟨xb,1,none⟩=some (.slice kJ q12.l.length kK):=JI.out.cell 1
             have SN:Gv.cell? ⟨xb,2,none⟩=some (.slice ra refs.length rc):=JI.out.cell 2
             have hsl:=FP.out.c.sl
             have htl:T2.length≤549755813888:=by
              have h1:=FP.out.c.len
              have h2:=zT.out.cl
              rw[←zT.out.cm] at h2
              omega
             obtain⟨i0,hi,hi0,hi1,hi2⟩:=info_parts Nv
             clear XL
             go_wp2_with (at_builtin;refine ay rfl _ _ 128 128 rfl 165 i0 _ 3 64 Tryz.underlying128 hi hi0 hi1 hi2 rfl 0 _ _ _ rfl _ rfl 1 [.string ⟨p.toArray⟩,.slice kJ q12.l.length kK,.slice ra refs.length rc] ?d11 (hsl.alloc _) ?d12 ?d13 ?Gg ?_)
             try (case d11=>exact Nat.zero_le _)
             case d12=>exact Src.kP Tryz.underlying128 (Sl.dM Gv 0 (Nat.zero_le _) 165 3 1 [.string ⟨p.toArray⟩,.slice kJ q12.l.length kK,.slice ra refs.length rc] rfl (by simp[maxLen])) (by intro u hu;simp only[List.mem_cons,List.not_mem_nil,or_false] at hu;rcases hu with rfl|rfl|rfl <;> rfl)
             case d13=>unfold maxLen;omega
             case Gg=>omega
             intro ao cc' TW XM nY zW XO
             have hka:Keeps Non Gv (Gv.alloc (.cells #[.string ⟨p.toArray⟩,.slice kJ q12.l.length kK,.slice ra refs.length rc] 165)):=(Keeps.refl _ _).alloc _
             have hBw:B≤Gv.heap.size:=by have h1:=PW.out.le;have h2:=PW.out.blk.lt;omega
             have wO:=Lib.hid (FP.out.aeC HG.out hka abG.out Wn.out XM nY zW (by simpa using XO) hBw)
             have PX:Hid (aS TW xb #[.string ⟨p.toArray⟩,.slice kJ q12.l.length kK,.slice ra refs.length rc] FT):=(JI.out.keeps hka fun h=>h).keeps zW fun e=>by
              have h1:=JC.out.c.sl.pR (show(Value.slice ca T2.length cc).ownBlock=some xb from e)
              omega
             have XP:Hid (Keeps (Py B) w TW):=((Gt.out.trans abE.out.Ur fun _ h=>.inl h).trans hka fun _ h=>h.elim).trans zW fun j hj=>.inl (JC.out.Pz j hj)
             have ae2:Hid (Sl TW xb 9 1 (.slice ra refs.length rc) refs.length (bf refs)):=(IQ.out.alloc _).kp nY (.inl (by decide))
             have aiH:B≤TW.heap.size:=by have h1:=wO.out.rd.le;have h2:=wO.out.rd.blk.lt;omega
             have abH:Hid (Gs TW B (fun k=>G k∧k≠r) (gy++[(.slice kJ q12.l.length kK,q12.l)]) ⟨p,q12.l,refs⟩ (.string ⟨p.toArray⟩,.slice kJ q12.l.length kK,.slice ra refs.length rc)):=⟨rfl,.inr (List.mem_append.2 (.inr (List.mem_singleton.2 rfl))),.inr (ae2.out.mono (by omega))⟩
             clear XM nY zW XO hka hsl hi hi0 hi1 hi2 JD SL SN
             have aap:kE TW (fun k=>(G k∧k≠r)∨B≤k) L (.slice la L.length lc) T:=wO.out.l.q fun u hu=>(wO.out.rd.kept u hu).1
             have hput:=KN TW aap aiF.out p kJ ra q12.l.length kK refs.length rc
             unfold sv at hput
             have Jk:=Lib.hid hput
             have JD:TW.cell? ⟨xb,0,none⟩=some (.string ⟨p.toArray⟩):=PX.out.cell 0
             have SL:TW.cell? ⟨xb,1,none⟩=some (.slice kJ q12.l.length kK):=PX.out.cell 1
             have SN:TW.cell? ⟨xb,2,none⟩=some (.slice ra refs.length rc):=PX.out.cell 2
             clear hput aap
             go_wp2_with fail
             refine Jk.out.mono ?_
             rintro e w24 ⟨v',rfl,abI,Zv⟩
             obtain⟨pa1,pc1,rfl,-,-⟩:=abI.shape
             have NK:=Lib.hid (wO.out.put HG.out abH.out Wn.out Zv abI aiH)
             have ae3:=Lib.hid (PX.out.keeps Zv fun h=>h)
             have ae4:Hid (Keeps (Py B) w w24):=XP.out.trans Zv fun _ h=>h.elim
             clear abI Zv Jk JD SL SN wO PX
             have JD:w24.cell? ⟨xb,0,none⟩=some (.string ⟨p.toArray⟩):=ae3.out.cell 0
             have ae5:=NK.out.f
             have amQ:B≤w24.heap.size:=by have h1:=NK.out.rd.le;have h2:=NK.out.rd.blk.lt;omega
             have hfl:fresh.length≤549755813888:=by
              have h1:=yK has x.came
              rw[←zT.out.fr] at h1
              have h2:=zT.out.cl
              omega
             obtain⟨i1,hj,hj0,hj1,hj2⟩:=info_parts wK
             go_wp2_with (at_builtin;refine ay rfl _ _ 26 26 rfl 9 i1 _ 1 16 Tryz.underlying26 hj hj0 hj1 hj2 rfl B _ _ _ rfl _ rfl 1 [.string ⟨p.toArray⟩] ?Om (ae5.alloc _) ?Oo ?Oq ?Ot ?_)
             case Om=>first|omega|(simp;omega)
             case Oo=>exact Src.kP Tryz.underlying26 (Sl.dM w24 0 (Nat.zero_le _) 9 1 1 [.string ⟨p.toArray⟩] rfl (by simp[maxLen])) (by intro u hu;simp only[List.mem_cons,List.not_mem_nil,or_false] at hu;rcases hu with rfl;rfl)
             case Oq=>unfold maxLen;omega
             case Ot=>omega
             intro FU BG w25 ae6 abJ aaq ae7
             have abK:Keeps Non w24 (w24.alloc (.cells #[.string ⟨p.toArray⟩] 9)):=(Keeps.refl _ _).alloc _
             have QN:=Lib.hid (NK.out.ais HG.out (p:=p) abK ae6 abJ aaq (by simpa using ae7))
             have ae8:Hid (Keeps (Py B) w w25):=(ae4.out.trans abK fun _ h=>h.elim).trans abJ.Ur fun _ h=>.inl h
             clear ae6 abJ aaq ae7 abK ae5 hj hj0 hj1 hj2 JD NK ae3
             go_wp2_with fail
             have herr:=Xt (q':=q12) (t:=t) (refs:=refs) (l:=q12.l) zT.out wX.out q11.at'
             rw[HSU.out,ae1.out] at herr
             obtain⟨Nu,abL⟩:∃Nu,q13.aO (if L.length=10 then 14 else 0) q11.at'=Nu:=⟨_,rfl⟩
             rw[abL] at herr QN
             have ae9:=aan.out
             have afa:=QN.out.rd.jR
             have XQ:=o7 q12 (dU {x.start p with refs:=refs} q12.l t) q11.at'
             rw[←herr] at XQ
             have hds:=dlen S
             have hend:=IJ (p0:=q11.at') zT.out JE.out herr FN.out.1 PV.out FN.out.2.1 FN.out.2.2 Zp.out (by omega) (by omega) (by omega)
             have hcf:tJ (L,fresh) ⟨p,q12.l,refs⟩=(ou L ⟨p,q12.l,refs⟩,fresh++[p]):=by
              unfold tJ
              rw[show aA (L,fresh).1 (⟨p,q12.l,refs⟩:dI).path=none from wX.out]
              rfl
             rw[hcf] at hend
             have CG:=Lib.hid hend
             clear hend hcf herr
             go_roundg (S.size+1-Nu.at')
             case measure=>omega
             case rel=>
              refine⟨_,Nu,_,rfl,ae8,QN.out.rd,⟨_,_,_,rfl⟩,⟨_,_,_,rfl⟩,⟨_,_,_,rfl⟩,?_⟩
              rcases CG.out with⟨h1,h2⟩|h1
              ·exact .inl ⟨h1,h2⟩
              ·exact .inr ⟨f,_,_,_,_,_,_,h1,QN.out⟩
          ·rw[hi]
           have HOL:=Lib.hid hol
           have AB:=Lib.hid hop
           have HFS:=Lib.hid hf
           have hd0:decide ((0:Int)≤(i:Int))=true:=decide_eq_true (by omega)
           have hd1:decide ((i:Int)<0)=false:=decide_eq_false (by omega)
           have hiT:i<T.length:=by rw[zV.out.l.len];exact hil
           obtain⟨tt,htt⟩:∃tt,T[i]? =some tt:=⟨_,List.getElem?_eq_getElem hiT⟩
           have HE:=Lib.hid (zV.out.l.ents i o tt hLi htt)
           have hqq:=(zV.out.l.q fun u hu=>(FI.out.kept u hu).1).ents i o tt hLi htt
           have abM:=zV.out.l.sl
           rw[zV.out.l.len] at abM
           obtain⟨lb,lo,amS,hsh,-,-,-,hbl,hcc,-⟩:=abM.pos (by omega)
           cases hsh
           obtain⟨k0,k1,k2⟩:=o9 T i tt htt
           obtain⟨t0,t1,t2⟩:=tt
           obtain⟨xa1,BH,hs1,-,-⟩:=hqq.tree.shape
           obtain⟨yO,yP,hs2,-,-⟩:=hqq.refs.shape
           have hs0:=hqq.path
           simp only at hs0 hs1 hs2 k0 k1 k2
           subst hs0 hs1 hs2
           have d0:NS.cell? ⟨lb,lo+i*3,none⟩=some (sv o.path):=(hcc _ (by omega)).trans k0
           have d1:NS.cell? ⟨lb,lo+i*3+1,none⟩=some (.slice xa1 o.tree.length BH):=by rw[Nat.add_assoc];exact(hcc _ (by omega)).trans k1
           have d2:NS.cell? ⟨lb,lo+i*3+2,none⟩=some (.slice yO o.refs.length yP):=by rw[Nat.add_assoc];exact(hcc _ (by omega)).trans k2
           have JD:NS.cell? ⟨xb,0,none⟩=some (.string ⟨p.toArray⟩):=JG.out.cell 0
           have SL:NS.cell? ⟨xb,1,none⟩=some (.slice kJ q12.l.length kK):=JG.out.cell 1
           have SN:NS.cell? ⟨xb,2,none⟩=some (.slice ra refs.length rc):=JG.out.cell 2
           have hgo:bH o.tree= -1:=by
            have h1:=(xI zT.out).ok.good o HOL.out
            exact h1.2.1
           have hfo:mM o:=by
            rcases (xI zT.out).mem o HOL.out with g|g
            ·exact Rq.out o g
            ·rw[zT.out.cm] at g
             exact zT.out.fit o g
           have hrl3:refs.length≤549755813888:=by omega
           have hnv:Rd NS 3 (.slice kJ q12.l.length kK) q12.l.length (ak q12.l):=(FI.out.kept (.slice kJ q12.l.length kK,q12.l) (List.mem_append.2 (.inr (List.mem_singleton.2 rfl)))).1.rd
           have pW:Hid (∀wx,Keeps Non NS wx→Calls Tryz.prog 99 #[.agg #[.string ⟨o.path.toArray⟩,.slice xa1 o.tree.length BH,.slice yO o.refs.length yP],.agg #[.string ⟨p.toArray⟩,.slice kJ q12.l.length kK,.slice ra refs.length rc]] wx fun e w'=>e=.returned (.bool (jM o ⟨p,q12.l,refs⟩))∧Keeps Non wx w'):=fun wx hk=>
            GY wx o ⟨p,q12.l,refs⟩ _ _ _ _ _ _ (hqq.tree.non hk) (hqq.refs.non hk) (hnv.non hk) (FK.out.rd.non hk) hgo PV.out hfo (QM PV.out Zp.out hrl3)
           have FV:Keeps Non NS NS:=Keeps.refl _ _
           unfold sv at d0
           clear hi hf hol hop hLi htt hqq abM hcc k0 k1 k2 hgo hfo hnv
           go_upto_region 31 with(fail)
           go_cut [143] (fun v wx=>v=.bool (!jM o ⟨p,q12.l,refs⟩)∧Hid (Keeps Non NS wx))
           case first=>as_aux_lemma=>
            go_region_with (go_at_call 99;refine(pW.out _ (by first|exact FV|exact FV.drew|exact FV.drewN _)).mono ?_;rintro e w21 ⟨rfl,hk⟩;replace hk:=(show Keeps Non NS w21 by first|exact hk|exact hk.un))
            all_goals (
             go_wp2_with fail
             go_meet
             exact⟨rfl,by first|exact hk|exact hk.drew|exact hk.drewN _⟩)
           case rest=>as_aux_lemma=>
            obtain⟨rfl,TY⟩:=hcut
            generalize wc=w21 at *
            have JH:=Lib.hid (FI.out.keeps TY.out)
            have XJ:=Lib.hid (JG.out.keeps TY.out fun h=>h)
            have NI:=Lib.hid (FK.out.kp (Kp.aI (B:=0) (Ts:=[]) TY.out) (.inl (by simp)))
            have XK:=Lib.hid (TU.out.trans (Kp.aI TY.out))
            have NJ:=Lib.hid (zV.out.kp (Kp.aI TY.out) JH.out HG.out (fun u hu=>hu))
            clear TY FI JG FK TU zV d0 d1 d2 JD SL SN pW FV
            go_upto_if 143 with(fail)
            go_cut [] (fun wx=>Hid (lF B B (gy++[(.slice kJ q12.l.length kK,q12.l)]) S.data.toList (q13.aO (if jM o ⟨p,q12.l,refs⟩ then 0 else 12) q11.at') wx (.slice kJ q12.l.length kK))∧Hid (Kp B jd w21 wx))
            case first=>as_aux_lemma=>
             cases hse:jM o ⟨p,q12.l,refs⟩ with
             |true=>
              go_wp2_with fail
              go_meet
              rw[hse]
              exact⟨JH,Kp.refl _ _ _⟩
             |false=>
              go_wp2_with fail
              refine(dP JH.out 12 _).mono ?_
              rintro e Gv ⟨rfl,h22,k22⟩
              have H22:=Lib.hid h22
              have K22:Hid (Kp B jd w21 Gv):=k22.rt
              clear h22 k22
              go_wp2_with fail
              go_meet
              rw[hse]
              exact⟨H22,K22⟩
            case rest=>as_aux_lemma=>
             obtain⟨PW,K22⟩:=hcut
             generalize wc=Gv at *
             have JI:=Lib.hid (XJ.out.kp K22.out (.inr (by decide)))
             have IQ:=Lib.hid (NI.out.kp K22.out (.inl (by decide)))
             have abE:=Lib.hid (XK.out.trans K22.out)
             have FP:=Lib.hid (NJ.out.kp K22.out PW.out HG.out (fun u hu=>hu))
             have hB4:B≤w4.heap.size:=by have h1:=JB.out.le;have h2:=JB.out.blk.lt;omega
             clear JH XJ NI XK NJ K22
             have XL:Gs Gv B (fun k=>G k∧k≠r) (gy++[(.slice kJ q12.l.length kK,q12.l)]) ⟨p,q12.l,refs⟩ (.string ⟨p.toArray⟩,.slice kJ q12.l.length kK,.slice ra refs.length rc):=⟨rfl,.inr (List.mem_append.2 (.inr (List.mem_singleton.2 rfl))),.inr (IQ.out.mono (by omega))⟩
             have abG:=Lib.hid XL
             have Wn:Hid (∀k,(Value.slice ra refs.length rc).ownBlock=some k→(Value.slice fa fresh.length fc).ownBlock≠some k):=fun k hk e=>by
              have h1:=(IQ.out.own k hk).1
              have h2:=(JC.out.f.own k e).2
              omega
             have JD:Gv.cell? ⟨xb,0,none⟩=some (.string ⟨p.toArray⟩):=JI.out.cell 0
             have SL:Gv.cell? ⟨xb,1,none⟩=some (.slice kJ q12.l.length kK):=JI.out.cell 1
             have SN:Gv.cell? ⟨xb,2,none⟩=some (.slice ra refs.length rc):=JI.out.cell 2
             have hsl:=FP.out.c.sl
             have htl:T2.length≤549755813888:=by
              have h1:=FP.out.c.len
              have h2:=zT.out.cl
              rw[←zT.out.cm] at h2
              omega
             obtain⟨i0,hi,hi0,hi1,hi2⟩:=info_parts Nv
             clear XL
             go_wp2_with (at_builtin;refine ay rfl _ _ 128 128 rfl 165 i0 _ 3 64 Tryz.underlying128 hi hi0 hi1 hi2 rfl 0 _ _ _ rfl _ rfl 1 [.string ⟨p.toArray⟩,.slice kJ q12.l.length kK,.slice ra refs.length rc] ?d11 (hsl.alloc _) ?d12 ?d13 ?Gg ?_)
             try (case d11=>exact Nat.zero_le _)
             case d12=>exact Src.kP Tryz.underlying128 (Sl.dM Gv 0 (Nat.zero_le _) 165 3 1 [.string ⟨p.toArray⟩,.slice kJ q12.l.length kK,.slice ra refs.length rc] rfl (by simp[maxLen])) (by intro u hu;simp only[List.mem_cons,List.not_mem_nil,or_false] at hu;rcases hu with rfl|rfl|rfl <;> rfl)
             case d13=>unfold maxLen;omega
             case Gg=>omega
             intro ao cc' TW XM nY zW XO
             have hka:Keeps Non Gv (Gv.alloc (.cells #[.string ⟨p.toArray⟩,.slice kJ q12.l.length kK,.slice ra refs.length rc] 165)):=(Keeps.refl _ _).alloc _
             have hBw:B≤Gv.heap.size:=by have h1:=PW.out.le;have h2:=PW.out.blk.lt;omega
             have wO:=Lib.hid (FP.out.aeC HG.out hka abG.out Wn.out XM nY zW (by simpa using XO) hBw)
             have PX:Hid (aS TW xb #[.string ⟨p.toArray⟩,.slice kJ q12.l.length kK,.slice ra refs.length rc] FT):=(JI.out.keeps hka fun h=>h).keeps zW fun e=>by
              have h1:=JC.out.c.sl.pR (show(Value.slice ca T2.length cc).ownBlock=some xb from e)
              omega
             have XP:Hid (Keeps (Py B) w TW):=((Gt.out.trans abE.out.Ur fun _ h=>.inl h).trans hka fun _ h=>h.elim).trans zW fun j hj=>.inl (JC.out.Pz j hj)
             clear XM nY zW XO hka hsl hi hi0 hi1 hi2 JD SL SN PX
             go_wp2_with fail
             have herr:=Xu (q':=q12) (t:=t) (refs:=refs) (l:=q12.l) zT.out HOL.out AB.out FN.out.1 q11.at'
             rw[HSU.out,ae1.out] at herr
             obtain⟨Nu,abL⟩:∃Nu,q13.aO (if jM o ⟨p,q12.l,refs⟩ then 0 else 12) q11.at'=Nu:=⟨_,rfl⟩
             rw[abL] at herr wO
             have ae9:=aan.out
             have afa:=wO.out.rd.jR
             have XQ:=o7 q12 (dU {x.start p with refs:=refs} q12.l t) q11.at'
             rw[←herr] at XQ
             have hds:=dlen S
             have hend:=IJ (p0:=q11.at') zT.out JE.out herr FN.out.1 PV.out FN.out.2.1 FN.out.2.2 Zp.out (by omega) (by omega) (by omega)
             have hcf:tJ (L,fresh) ⟨p,q12.l,refs⟩=(L,fresh):=by
              unfold tJ
              rw[if_pos (show(aA (L,fresh).1 (⟨p,q12.l,refs⟩:dI).path).isSome=true from HFS.out)]
             rw[hcf] at hend
             have CG:=Lib.hid hend
             clear hend hcf herr
             go_roundg (S.size+1-Nu.at')
             case measure=>omega
             case rel=>
              refine⟨_,Nu,_,rfl,XP,wO.out.rd,⟨_,_,_,rfl⟩,⟨_,_,_,rfl⟩,⟨_,_,_,rfl⟩,?_⟩
              rcases CG.out with⟨h1,h2⟩|h1
              ·exact .inl ⟨h1,h2⟩
              ·exact .inr ⟨f,_,_,_,_,_,_,h1,wO.out⟩
        ·have hb1:(q12.e==0)=false:=by rw[beq_eq_false_iff_ne];exact PU
         have hb2:(q12.e !=0)=true:=by unfold bne;rw[hb1];rfl
         have xP:=Lib.hid FB.out
         have HKW4':Hid (Keeps (Py B) w Gu):=Gt.out.trans PN.out.Ur fun _ h=>.inl h
         have Xv:Hid (Stat S.data.toList q12 R (zO (x,q12.rs S.data.toList))):=⟨fun e=>absurd e PU,JE.out.2⟩
         have Xw:Hid (q12.e=0→∃T T2,wL Gu B B S.data.toList (fun k=>G k∧k≠r) gy q12 MN (bG has x.came).1 x.came (bG has x.came).2 (.slice la ln lc) (.slice ca cn cc) (.slice fa fn fc) T T2):=fun e=>absurd e PU
         clear Gt
         have Gt:=HKW4'
         go_upto_region 39 with(fail)
         clear HKW4' hb1 hb2 PU c2 FB PN FC FD JE XG IL
         as_aux_lemma=>
          obtain⟨q5,hq5⟩:∃q5,zH S.data.toList q12=q5:=⟨_,rfl⟩
          have hend:=Fq Xv.out xP.out.jR
          rw[hq5] at hend
          have CG:=Lib.hid hend
          have F7:=Lib.hid hq5
          have c1:Gu.cell? ⟨B,1,none⟩=some (.int .i64 q12.at'):=xP.out.blk.cell 1
          have hds:S.data.toList.length=S.size:=dlen S
          clear hq5 hend
          go_upto_if 177 with(fail)
          go_cut [] (fun wx=>Hid (lF B B gy S.data.toList q5 wx MN)∧Hid (Kp B jd Gu wx))
          case first=>as_aux_lemma=>
           by_cases hat:q12.at'<S.size
           ·have hd1:decide ((q12.at':Int)<(S.size:Int))=true:=decide_eq_true (by omega)
            have hd2:decide (q12.at'<S.size)=true:=decide_eq_true hat
            have Xx:Hid (q5=q12.fail 10 q12.at'):=by show _=_;rw[←F7.out,zH,if_pos (by rw[hds];exact hat)]
            rw[hd2]
            clear hat
            go_wp2_with fail
            refine(dP xP.out 10 _).mono ?_
            rintro e w5 ⟨rfl,h5,k5⟩
            rw[←Xx.out] at h5
            have H5:=Lib.hid h5
            have K5:Hid (Kp B jd Gu w5):=k5.rt
            clear h5 k5
            go_wp2_with fail
            go_meet
            exact⟨H5,K5⟩
           ·have hd1:decide ((q12.at':Int)<(S.size:Int))=false:=decide_eq_false (by omega)
            have hd2:decide (q12.at'<S.size)=false:=decide_eq_false hat
            have Xx:Hid (q5=q12):=by show _=_;rw[←F7.out,zH,if_neg (by rw[hds];exact hat)]
            rw[hd2]
            clear hat
            go_wp2_with fail
            go_meet
            rw[Xx.out]
            exact⟨xP,Kp.refl _ _ _⟩
          case rest=>as_aux_lemma=>
           obtain⟨H5,K5⟩:=hcut
           generalize wc=w5 at *
           clear c1 hds
           have c2:w5.cell? ⟨B,2,none⟩=some (.int .i64 q5.e):=H5.out.blk.cell 2
           have c3:w5.cell? ⟨B,3,none⟩=some (.int .i64 q5.bad):=H5.out.blk.cell 3
           have ng:Hid (Keeps (Py B) w w5):=Gt.out.trans K5.out.Ur fun _ h=>.inl h
           by_cases Fv:q5.e=0
           ·have hb:(q5.e==0)=true:=by rw[Fv];rfl
            have hb2:(q5.e !=0)=false:=by rw[Fv];rfl
            obtain⟨he1,hRx⟩:=CG.out.2 Fv
            obtain⟨T,T2,himp⟩:=Xw.out he1
            have wM:=himp.kp K5.out H5.out HG.out (fun x hx=>hx)
            obtain⟨hd1,hd2,hd3,hd4,hd5⟩:=Bf HQ.out HB.out ng.out wM
            obtain⟨cv0,hcv0⟩:=Option.ne_none_iff_exists'.1 hd4
            have HD1:=Lib.hid hd1
            have HD2:=Lib.hid hd2
            have HD3:=Lib.hid hd3
            have Xy:Hid (gq has S.data.toList=.ok x):=by show _=_;rw[HR.out];exact hRx
            have hfl:=wM.f.shape
            obtain⟨fa2,fc2,hfv,-,-⟩:=hfl
            clear Fv hRx himp wM hd1 hd2 hd3 hd4 he1
            go_wp2_with fail
            go_ret3
            unfold og
            rw[Xy.out]
            refine⟨_,rfl,?_,?_,HD2.out⟩
            ·rw[HB.out];exact HD3.out
            ·rw[HB.out];exact HD1.out
           ·have hb:(q5.e==0)=false:=by rw[beq_eq_false_iff_ne];exact Fv
            have hb2:(q5.e !=0)=true:=by unfold bne;rw[hb];rfl
            have Xy:Hid (gq has S.data.toList=.error (q5.e,q5.bad)):=by show _=_;rw[HR.out];exact CG.out.1 Fv
            have Xp:Hid (Keeps Non w w5):=⟨ng.out.os,ng.out.tape,ng.out.output,ng.out.size,fun k hk _=>ng.out.block k hk fun e=>by have h1:B≤k:=e;have:=HB.out;omega⟩
            clear Fv
            go_wp2_with fail
            go_quiet (fail)
            go_wp2_with fail
            go_ret3
            unfold og
            rw[Xy.out]
            exact⟨rfl,Xp.out.drewN _⟩
   ·have hb0:(y==[112,97,116,104])=false:=by rw[beq_eq_false_iff_ne];exact hyp
    have hs1:=oI.out
    rw[if_neg (by exact hyp)] at hs1
    have Xv:Hid (Stat S.data.toList q1 R (zO (x,q1.rs S.data.toList))):=hs1
    clear hs1 oI
    go_wp2_with fail
    refine HW.out.mono ?_
    rintro e w4 ⟨rfl,h4,k4⟩
    have xP:=Lib.hid h4
    have Gt:Hid (Keeps (Py B) w w4):=(pO.out.trans HA.out fun _ h=>h.elim).trans k4.Ur fun _ h=>.inl h
    have X8:Hid (Kp B jd wr w4):=(Kp.aI HA.out).trans k4.rt
    have Xw:Hid (q1.e=0→∃T T2,wL w4 B B S.data.toList (fun k=>G k∧k≠r) gy q1 vl (bG has x.came).1 x.came (bG has x.came).2 (.slice la ln lc) (.slice ca cn cc) (.slice fa fn fc) T T2):=fun _=>by
     have h1:=HIM.out.kp X8.out xP.out HG.out (fun x hx=>hx)
     have e1:=zT.out.l
     have e2:=zT.out.cm
     have e3:=zT.out.fr
     subst e2
     rw[e1,e3] at h1
     exact⟨_,_,h1⟩
    clear h4 k4 HW HA pO NR zT HIM hyp X8
    as_aux_lemma=>
     obtain⟨q5,hq5⟩:∃q5,zH S.data.toList q1=q5:=⟨_,rfl⟩
     have hend:=Fq Xv.out xP.out.jR
     rw[hq5] at hend
     have CG:=Lib.hid hend
     have F7:=Lib.hid hq5
     have c1:w4.cell? ⟨B,1,none⟩=some (.int .i64 q1.at'):=xP.out.blk.cell 1
     have hds:S.data.toList.length=S.size:=dlen S
     clear hq5 hend
     go_upto_if 177 with(fail)
     go_cut [] (fun wx=>Hid (lF B B gy S.data.toList q5 wx vl)∧Hid (Kp B jd w4 wx))
     case first=>as_aux_lemma=>
      by_cases hat:q1.at'<S.size
      ·have hd1:decide ((q1.at':Int)<(S.size:Int))=true:=decide_eq_true (by omega)
       have hd2:decide (q1.at'<S.size)=true:=decide_eq_true hat
       have Xx:Hid (q5=q1.fail 10 q1.at'):=by show _=_;rw[←F7.out,zH,if_pos (by rw[hds];exact hat)]
       rw[hd2]
       clear hat
       go_wp2_with fail
       refine(dP xP.out 10 _).mono ?_
       rintro e w5 ⟨rfl,h5,k5⟩
       rw[←Xx.out] at h5
       have H5:=Lib.hid h5
       have K5:Hid (Kp B jd w4 w5):=k5.rt
       clear h5 k5
       go_wp2_with fail
       go_meet
       exact⟨H5,K5⟩
      ·have hd1:decide ((q1.at':Int)<(S.size:Int))=false:=decide_eq_false (by omega)
       have hd2:decide (q1.at'<S.size)=false:=decide_eq_false hat
       have Xx:Hid (q5=q1):=by show _=_;rw[←F7.out,zH,if_neg (by rw[hds];exact hat)]
       rw[hd2]
       clear hat
       go_wp2_with fail
       go_meet
       rw[Xx.out]
       exact⟨xP,Kp.refl _ _ _⟩
     case rest=>as_aux_lemma=>
      obtain⟨H5,K5⟩:=hcut
      generalize wc=w5 at *
      clear c1 hds
      have c2:w5.cell? ⟨B,2,none⟩=some (.int .i64 q5.e):=H5.out.blk.cell 2
      have c3:w5.cell? ⟨B,3,none⟩=some (.int .i64 q5.bad):=H5.out.blk.cell 3
      have ng:Hid (Keeps (Py B) w w5):=Gt.out.trans K5.out.Ur fun _ h=>.inl h
      by_cases Fv:q5.e=0
      ·have hb:(q5.e==0)=true:=by rw[Fv];rfl
       have hb2:(q5.e !=0)=false:=by rw[Fv];rfl
       obtain⟨he1,hRx⟩:=CG.out.2 Fv
       obtain⟨T,T2,himp⟩:=Xw.out he1
       have wM:=himp.kp K5.out H5.out HG.out (fun x hx=>hx)
       obtain⟨hd1,hd2,hd3,hd4,hd5⟩:=Bf HQ.out HB.out ng.out wM
       obtain⟨cv0,hcv0⟩:=Option.ne_none_iff_exists'.1 hd4
       have HD1:=Lib.hid hd1
       have HD2:=Lib.hid hd2
       have HD3:=Lib.hid hd3
       have Xy:Hid (gq has S.data.toList=.ok x):=by show _=_;rw[HR.out];exact hRx
       have hfl:=wM.f.shape
       obtain⟨fa2,fc2,hfv,-,-⟩:=hfl
       clear Fv hRx himp wM hd1 hd2 hd3 hd4 he1
       go_wp2_with fail
       go_ret3
       unfold og
       rw[Xy.out]
       refine⟨_,rfl,?_,?_,HD2.out⟩
       ·rw[HB.out];exact HD3.out
       ·rw[HB.out];exact HD1.out
      ·have hb:(q5.e==0)=false:=by rw[beq_eq_false_iff_ne];exact Fv
       have hb2:(q5.e !=0)=true:=by unfold bne;rw[hb];rfl
       have Xy:Hid (gq has S.data.toList=.error (q5.e,q5.bad)):=by show _=_;rw[HR.out];exact CG.out.1 Fv
       have Xp:Hid (Keeps Non w w5):=⟨ng.out.os,ng.out.tape,ng.out.output,ng.out.size,fun k hk _=>ng.out.block k hk fun e=>by have h1:B≤k:=e;have:=HB.out;omega⟩
       clear Fv
       go_wp2_with fail
       go_quiet (fail)
       go_wp2_with fail
       go_ret3
       unfold og
       rw[Xy.out]
       exact⟨rfl,Xp.out.drewN _⟩
end Go.Proofs.YtdkogijdfgfpeaaGreatDoor

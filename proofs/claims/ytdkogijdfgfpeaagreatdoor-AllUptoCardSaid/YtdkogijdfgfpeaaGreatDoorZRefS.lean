/- Plain: how far the document's reader goes, and how many nodes it has. -/
import Derived.Test.YtdkogijdfgfpeaaGreatDoorZRefN
import Derived.Test.YtdkogijdfgfpeaaGreatDoorZRefD
import Derived.Test.YtdkogijdfgfpeaaGreatDoorZPMem
import Derived.Test.YtdkogijdfgfpeaaGreatDoorZPackw
import Derived.Deep.RegionLaw
set_option linter.unusedVariables false
namespace Go.Proofs.YtdkogijdfgfpeaaGreatDoor
open Go Go.RowKit
set_option maxHeartbeats 1600000
set_option maxRecDepth 100000
theorem kT(q:RQ)(e p:Int):(q.fail e p).l=q.l∧(q.fail e p).at'=q.at':=by
 unfold RQ.fail;split <;> exact⟨rfl,rfl⟩
theorem lI(S:List UInt8)(m:Nat)(q:RQ):(aV S m q).2.l=q.l∧q.at'≤(aV S m q).2.at':=by
 unfold aV
 split
 ·exact⟨rfl,Nat.le_refl _⟩
 ·cases h:fD m (q.rs S) with
  |error x=>exact⟨rfl,Nat.le_refl _⟩
  |ok x=>
   obtain⟨k,h1,h2,h3,-⟩:=wo h
   refine⟨rfl,?_⟩
   show q.at'≤x.2.at'
   rw[h3]
   exact Nat.le_add_right _ _
theorem bQ(S:List UInt8)(may:List (List UInt8))(q:RQ):(aB S may q).2.l=q.l∧q.at'≤(aB S may q).2.at':=by
 have h:=lI S 8 q
 unfold aB
 split
 ·exact h
 ·simp only
  rw[(kT ..).1,(kT ..).2]
  exact h
theorem MH(q:RQ)(p:Int):(lU q p).l=q.l∧(lU q p).at'=q.at':=by
 unfold lU;split
 ·exact kT ..
 ·exact⟨rfl,rfl⟩
theorem MI(S:List UInt8)(b:Bool)(q:RQ):(lH S b q).2.l=q.l∧q.at'≤(lH S b q).2.at':=by
 unfold lH
 have h1:=bQ S [gI] q
 have h2:(if b=true then (aB S [gI] q).2.fail 8 q.at' else (aB S [gI] q).2).l=q.l∧q.at'≤(if b=true then (aB S [gI] q).2.fail 8 q.at' else (aB S [gI] q).2).at':=by
  split
  ·rw[(kT ..).1,(kT ..).2];exact h1
  ·exact h1
 generalize (if b=true then (aB S [gI] q).2.fail 8 q.at' else (aB S [gI] q).2)=q2 at *
 have h3:=MH q2 q.at'
 have h4:=bQ S [nD] (lU q2 q.at')
 have h5:=bQ S [fA,fB,jm] (aB S [nD] (lU q2 q.at')).2
 exact⟨by rw[h5.1,h4.1,h3.1,h2.1],by have:=h3.2;omega⟩
theorem MJ{S:List UInt8}{b:Bool}{q:RQ}(h:(lH S b q).1≠[]):q.l.length≠30:=by
 intro h30
 apply h
 unfold lH
 have h1:=bQ S [gI] q
 have h2:(if b=true then (aB S [gI] q).2.fail 8 q.at' else (aB S [gI] q).2).l=q.l:=by
  split
  ·rw[(kT ..).1];exact h1.1
  ·exact h1.1
 generalize (if b=true then (aB S [gI] q).2.fail 8 q.at' else (aB S [gI] q).2)=q2 at *
 have hb:(lU q2 q.at').e≠0:=by
  rw[lU,if_pos (by rw[h2];exact h30),RQ.fail]
  split
  ·show(9:Int)≠0;decide
  ·assumption
 rw[bC hb,bC hb]
theorem Wq(S path:List UInt8)(q:RQ):(uU S path q).l.length=q.l.length+1∧q.at'≤(uU S path q).at':=by
 unfold uU
 have h1:=bQ S [jP,gK] q
 generalize aB S [jP,gK] q=x at *
 split
 ·have h2:=bQ S [[]] x.2
  generalize aB S [[]] x.2=y at *
  have h3:=bQ S [gK] y.2
  generalize aB S [gK] y.2=z at *
  have h4:=lI S 100 z.2
  generalize aV S 100 z.2=u at *
  have h5:=bQ S [aX] (u.2.add ⟨path,2,u.1⟩)
  simp only[RQ.add] at h5
  exact⟨by rw[RQ.add,h5.1];simp[h4.1,h3.1,h2.1,h1.1],by rw[RQ.add];omega⟩
 ·have h4:=lI S 100 x.2
  generalize aV S 100 x.2=u at *
  have h5:=bQ S [aX] (u.2.add ⟨path,1,u.1⟩)
  simp only[RQ.add] at h5
  exact⟨by rw[RQ.add,h5.1];simp[h4.1,h1.1],by rw[RQ.add];omega⟩
theorem Ws(S path:List UInt8)(q:RQ):(uV S path q).l.length=q.l.length+1∧q.at'≤(uV S path q).at':=by
 unfold uV
 have h1:=bQ S [Lr] q
 generalize aB S [Lr] q=x at *
 have h4:=lI S 100 x.2
 generalize aV S 100 x.2=u at *
 have h2:(if aZ 3 u.1=true then u.2 else u.2.fail 6 x.2.at').l=q.l∧q.at'≤(if aZ 3 u.1=true then u.2 else u.2.fail 6 x.2.at').at':=by
  split
  ·exact⟨by rw[h4.1,h1.1],by omega⟩
  ·rw[(kT ..).1,(kT ..).2];exact⟨by rw[h4.1,h1.1],by omega⟩
 generalize (if aZ 3 u.1=true then u.2 else u.2.fail 6 x.2.at')=v at *
 have h5:=bQ S [aX] (v.add ⟨path,3,u.1⟩)
 simp only[RQ.add] at h5
 exact⟨by rw[RQ.add,h5.1];simp[h2.1],by rw[RQ.add];omega⟩
def Jr(node:List UInt8→RQ→RQ):Prop:=∀p q,(q.l.length≤30→(node p q).l.length≤30)∧q.at'≤(node p q).at'
theorem Il{S:List UInt8}{node:List UInt8→RQ→RQ}(hn:Jr node)(path last:List UInt8)(q:RQ):(q.l.length≤30→(su S node path last q).2.l.length≤30)∧q.at'≤(su S node path last q).2.at':=by
 unfold su
 simp only
 have h1:=bQ S [gI] q
 generalize aB S [gI] q=x at *
 have h2:=bQ S [jQ] x.2
 generalize aB S [jQ] x.2=y at *
 have h3:=lI S 48 y.2
 generalize aV S 48 y.2=z at *
 have h4:(if nameB z.1=true then z.2 else z.2.fail 6 y.2.at').l=z.2.l∧(if nameB z.1=true then z.2 else z.2.fail 6 y.2.at').at'=z.2.at':=by
  split
  ·exact⟨rfl,rfl⟩
  ·exact kT ..
 generalize (if nameB z.1=true then z.2 else z.2.fail 6 y.2.at')=u at *
 have h5:(if pY z.1 last=true then u.fail 7 y.2.at' else u).l=u.l∧(if pY z.1 last=true then u.fail 7 y.2.at' else u).at'=u.at':=by
  split
  ·exact kT ..
  ·exact⟨rfl,rfl⟩
 generalize (if pY z.1 last=true then u.fail 7 y.2.at' else u)=v at *
 have h6:=bQ S [nS] v
 generalize aB S [nS] v=t at *
 have h7:=hn (bg path z.1) t.2
 generalize node (bg path z.1) t.2=r at *
 have h8:=bQ S [aX] r
 refine⟨fun h=>?_,by omega⟩
 rw[h8.1]
 exact h7.1 (by rw[h6.1,h5.1,h4.1,h3.1,h2.1,h1.1];exact h)
theorem MK{S:List UInt8}{node:List UInt8→RQ→RQ}(hn:Jr node)(path:List UInt8):∀(f:Nat) (last:List UInt8) (q:RQ),(q.l.length≤30→(jS S node path f last q).l.length≤30)∧q.at'≤(jS S node path f last q).at'
 |0,last,q=>⟨fun h=>h,Nat.le_refl _⟩
 |f+1,last,q=>by
  rw[jS]
  have h1:=bQ S [gX,aX] q
  generalize aB S [gX,aX] q=x at *
  split
  ·have h2:=Il (S:=S) hn path last x.2
   generalize su S node path last x.2=y at *
   have h3:=MK (S:=S) hn path f y.1 y.2
   exact⟨fun h=>h3.1 (h2.1 (by rw[h1.1];exact h)),by omega⟩
  ·exact⟨fun h=>by rw[h1.1];exact h,h1.2⟩
theorem EO(S:List UInt8):∀d:Nat,Jr (dV S d)
 |0=>fun p q=>by
  rw[dV]
  have:=MI S true q
  exact⟨fun h=>by rw[this.1];exact h,this.2⟩
 |d+1=>fun p q=>by
  rw[dV]
  have h1:=MI S false q
  have hne:=MJ (S:=S) (b:=false) (q:=q)
  generalize lH S false q=x at *
  split
  ·rename_i h
   have h30:=hne (by rw[h];decide)
   have h2:=Wq S p x.2
   exact⟨fun hq=>by rw[h2.1,h1.1];omega,by omega⟩
  ·split
   ·rename_i h
    have h30:=hne (by rw[h];decide)
    have h2:=Ws S p x.2
    exact⟨fun hq=>by rw[h2.1,h1.1];omega,by omega⟩
   ·split
    ·rename_i h
     have h30:=hne (by rw[h];decide)
     have h2:=MK (S:=S) (EO S d) p (S.length+1) [] (x.2.add ⟨p,4,[]⟩)
     simp only[RQ.add] at h2
     refine⟨fun hq=>h2.1 (by rw[List.length_append,h1.1];simp;omega),?_⟩
     rw[RQ.add]
     omega
    ·exact⟨fun h=>by rw[h1.1];exact h,h1.2⟩
theorem SG{S:List UInt8}{may:List (List UInt8)}{q:RQ}(h:(aB S may q).1≠[]):(aB S may q).2.e=0∧q.at'+8≤(aB S may q).2.at':=by
 unfold aB at h ⊢
 split
 ·rename_i h0
  rw[if_pos h0] at h
  refine⟨h0.1,?_⟩
  have h1:=h0.1
  unfold aV at h1 ⊢
  split
  ·rename_i he;rw[if_pos he] at h1;exact absurd h1 he
  ·rename_i he
   rw[if_neg he] at h1
   cases hn:fD 8 (q.rs S) with
   |error x=>rw[hn] at h1;exact absurd h1 (MF hn)
   |ok x=>
    obtain⟨k,h2,h3,h4,-⟩:=wo hn
    show q.at'+8≤x.2.at'
    rw[h4]
    show q.at'+8≤q.at'+k
    omega
 ·rename_i h0
  rw[if_neg h0] at h
  exact absurd rfl h
theorem xG(S:List UInt8)(m:Nat)(q:RQ):(aV S m q).1.length≤m:=by
 unfold aV
 split
 ·exact Nat.zero_le _
 ·cases hn:fD m (q.rs S) with
  |error x=>exact Nat.zero_le _
  |ok x=>obtain⟨k,_,_,_,h,_⟩:=wo hn;exact h
abbrev jd:List TypeId:=[49,RT]
def Wu(S:List UInt8)(B b:Nat)(gy:List (Value×List Node))(d n:Nat):Prop:=∀(path:ByteArray) (q:RQ) (w:World) (vl:Value),lF B b gy S q w vl→q.l.length≤30→path.size≤49*n→
 Calls Tryz.prog 128 #[.pointer (some ⟨b,0,none⟩),.string path,.int .i64 n] w fun ed w'=>ed=.returned (.tuple #[])∧(∃vl',lF B b gy S (dV S d path.data.toList q) w' vl')∧Kp B jd w w'
theorem Kp.rt{B:Nat}{w w':World}(h:Kp B [RT] w w'):Kp B jd w w':=h.mono (.inr ⟨Nat.le_refl _,by simp⟩)
theorem Wv{S:List UInt8}{B b d n:Nat}{gy:List (Value×List Node)}(hN:Wu S B b gy d (n+1))(hn:n≤5){q:RQ}{w:World}{vl:Value}(h:lF B b gy S q w vl)(hl:q.l.length≤30)(path:ByteArray)(hp:path.size≤49*n):
 Calls Tryz.prog 154 #[.pointer (some ⟨b,0,none⟩),.string path,.int .i64 n] w fun ed w'=>ed=.returned (.tuple #[])∧(∃vl',lF B b gy S (jS S (dV S d) path.data.toList (S.length+1) [] q) w' vl')∧Kp B jd w w':=by
 have H:=Lib.hid h
 have HN:=Lib.hid hN
 clear h hN
 obtain⟨R,hR⟩:∃R,jS S (dV S d) path.data.toList (S.length+1) [] q=R:=⟨_,rfl⟩
 rw[hR]
 have HR:Hid (R=jS S (dV S d) path.data.toList (S.length+1) [] q):=hR.symm
 clear hR
 go_enter Tryz.func154,Tryz.ntmps154
 go_wp2_with fail
 go_loopg [6] (S.length+1) (fun gk lv wr=>∃(last:List UInt8) (q':RQ) (vl':Value),lv=.string ⟨last.toArray⟩∧last.length≤48∧S.length+1≤q'.at'+gk∧q'.l.length≤30∧Hid (lF B b gy S q' wr vl')∧Hid (Kp B jd w wr)∧Hid (R=jS S (dV S d) path.data.toList gk last q'))
 case atStart=>exact⟨[],q,vl,rfl,by simp,by omega,hl,H,Kp.refl _ _ _,HR⟩
 case round=>
  clear H hl HR
  obtain⟨last,q0,vl0,rfl,hlast,hfu,hl0,H0,K0,HD⟩:=hrel
  have alS:=H0.out.jR
  obtain⟨f,rfl⟩:∃f,gk=f+1:=⟨gk-1,by omega⟩
  go_wp2_with fail
  refine(qC (H0.out.keeps ((Keeps.refl _ _).alloc _)) [gX,aX] _ (aP wr 2 _ [gX,aX] _ rfl rfl rfl (by simp))).mono ?_
  rintro e w1 ⟨rfl,h1,k1⟩
  have EP:=SG (S:=S) (may:=[gX,aX]) (q:=q0)
  have hla:=bQ S [gX,aX] q0
  rw[jS] at HD
  obtain⟨x,hx⟩:∃x,aB S [gX,aX] q0=x:=⟨_,rfl⟩
  rw[hx] at h1 EP hla HD ⊢
  obtain⟨x1,q1⟩:=x
  simp only at h1 EP hla HD ⊢
  have H1:=Lib.hid h1
  have K1:Hid (Kp B jd w w1):=K0.out.trans (((Kp.refl _ _ _).alloc _).trans k1.rt)
  clear h1 k1 hx
  by_cases hen:x1=gX
  ·rw[if_pos hen] at HD
   have hb:(x1==[101,110,116,114,121])=true:=by rw[hen];rfl
   have hfr:=EP (by rw[hen];decide)
   have hl1:q1.l.length≤30:=by rw[hla.1];exact hl0
   have Y5:=Il (S:=S) (EO S d) path.data.toList last q1
   have HQE:Hid (∀z,su S (dV S d) path.data.toList last q1=z→z=su S (dV S d) path.data.toList last q1):=fun z hz=>hz.symm
   clear hen EP hla H0 K0
   go_wp2_with fail
   refine(iE H1.out ⟨#[40]⟩).mono ?_
   rintro e w2 ⟨rfl,h2,k2⟩
   have h2:lF B b gy S (aB S [gI] q1).2 w2 vl0:=h2
   obtain⟨q2,hq2⟩:∃q2,(aB S [gI] q1).2=q2:=⟨_,rfl⟩
   rw[hq2] at h2
   have Qv:=Lib.hid hq2
   have H2:=Lib.hid h2
   have K2:=Lib.hid (K1.out.trans k2.rt)
   clear h2 k2 hq2
   go_wp2_with fail
   refine(iE H2.out ⟨#[110,97,109,101]⟩).mono ?_
   rintro e w3 ⟨rfl,h3,k3⟩
   have h3:lF B b gy S (aB S [jQ] q2).2 w3 vl0:=h3
   obtain⟨q3,hq3⟩:∃q3,(aB S [jQ] q2).2=q3:=⟨_,rfl⟩
   rw[hq3] at h3
   have YV:=Lib.hid hq3
   have H3:=Lib.hid h3
   have K3:=Lib.hid (K2.out.trans k3.rt)
   have c1:w3.cell? ⟨b,1,none⟩=some (.int .i64 q3.at'):=h3.blk.cell 1
   clear h3 k3 hq3
   go_wp2_with fail
   refine(oV H3.out 48 (by omega)).mono ?_
   rintro e w4 ⟨rfl,h4,k4⟩
   have hsl:=xG S 48 q3
   obtain⟨y,hy⟩:∃y,aV S 48 q3=y:=⟨_,rfl⟩
   rw[hy] at h4 hsl ⊢
   obtain⟨s,q4⟩:=y
   simp only at h4 hsl ⊢
   have HY:=Lib.hid hy
   have H4:=Lib.hid h4
   have K4:=Lib.hid (K3.out.trans k4.rt)
   clear h4 k4 hy c1
   go_wp2_with fail
   refine(Gx ⟨s.toArray⟩ _ (by show s.toArray.size≤_;simp;omega)).mono ?_
   rintro e w5 ⟨rfl,hk5⟩
   have H5:=Lib.hid (H4.out.keeps hk5)
   have K5:=Lib.hid (K4.out.trans (Kp.aI hk5))
   rw[show je (⟨s.toArray⟩:ByteArray).data.toList=nameB s from ug s]
   clear hk5
   go_upto_if 26 with(fail)
   obtain⟨q5,hq5⟩:∃q5,(if nameB s then q4 else q4.fail 6 q3.at')=q5:=⟨_,rfl⟩
   go_cut [] (fun wx=>Hid (lF B b gy S q5 wx vl0)∧Hid (Kp B jd w wx))
   case first=>
    cases hnm:nameB s with
    |true=>
     rw[hnm,if_pos rfl] at hq5
     subst hq5
     clear hnm
     go_wp2_with fail
     go_meet
     exact⟨H5,K5⟩
    |false=>
     rw[hnm,if_neg (by decide)] at hq5
     subst hq5
     clear hnm
     go_wp2_with fail
     refine(dP H5.out 6 _).mono ?_
     rintro e w6 ⟨rfl,h6,k6⟩
     have H6:=Lib.hid h6
     have K6:=Lib.hid (K5.out.trans k6.rt)
     clear h6 k6
     go_wp2_with fail
     go_meet
     exact⟨H6,K6⟩
   case rest=>
    obtain⟨H6,K6⟩:=hcut
    have F7:=Lib.hid hq5
    clear hq5 H5 K5 H4 K4 H3 K3 H2 K2 H1 K1
    obtain⟨q6,hq6⟩:∃q6,(if pY s last then q5.fail 7 q3.at' else q5)=q6:=⟨_,rfl⟩
    go_upto_if 32 with(fail)
    go_cut [] (fun wx=>Hid (lF B b gy S q6 wx vl0)∧Hid (Kp B jd w wx))
    case first=>
     rw[show pY s last=(Op.bytesLess s last||s==last) from rfl] at hq6
     generalize (Op.bytesLess s last||s==last)=g at hq6 ⊢
     cases g with
     |true=>
      rw[if_pos rfl] at hq6
      subst hq6
      go_wp2_with fail
      refine(dP H6.out 7 _).mono ?_
      rintro e w7 ⟨rfl,h7,k7⟩
      have H7:=Lib.hid h7
      have K7:=Lib.hid (K6.out.trans k7.rt)
      clear h7 k7
      go_wp2_with fail
      go_meet
      exact⟨H7,K7⟩
     |false=>
      rw[if_neg (by decide)] at hq6
      subst hq6
      go_wp2_with fail
      go_meet
      exact⟨H6,K6⟩
    case rest=>
     obtain⟨H7,K7⟩:=hcut
     have HQ6:=Lib.hid hq6
     clear hq6 H6 K6
     have hz:su S (dV S d) path.data.toList last q1=(s,(aB S [aX] (dV S d (bg path.data.toList s) (aB S [nS] q6).2)).2):=by
      unfold su
      simp only[Qv.out,YV.out,HY.out]
      rw[F7.out,HQ6.out]
     have adJ:q6.l=q1.l:=by
      have e6:q6.l=q5.l:=by rw[←HQ6.out];split;exact(kT ..).1;rfl
      have e5:q5.l=q4.l:=by rw[←F7.out];split;rfl;exact(kT ..).1
      have e4:q4.l=q3.l:=by have:=(lI S 48 q3).1;rw[HY.out] at this;exact this
      have e3:q3.l=q2.l:=by rw[←YV.out];exact(bQ ..).1
      have e2:q2.l=q1.l:=by rw[←Qv.out];exact(bQ ..).1
      rw[e6,e5,e4,e3,e2]
     rw[hz] at HD Y5
     simp only at HD Y5
     have ZT:=Lib.hid Y5
     clear hz Y5 HQE F7 HQ6 HY Qv YV
     go_wp2_with fail
     refine(iE H7.out ⟨#[110,111,100,101]⟩).mono ?_
     rintro e w8 ⟨rfl,h8,k8⟩
     have h8:lF B b gy S (aB S [nS] q6).2 w8 vl0:=h8
     have Ul:=(bQ S [nS] q6).1
     obtain⟨q8,hq8⟩:∃q8,(aB S [nS] q6).2=q8:=⟨_,rfl⟩
     rw[hq8] at h8 HD ZT Ul
     have H8:=Lib.hid h8
     have K8:=Lib.hid (K7.out.trans k8.rt)
     clear h8 k8 hq8 H7 K7
     have UH:q8.l.length≤30:=by rw[Ul,adJ];exact hl1
     have hps:path.size≤245:=by omega
     clear Ul adJ
     go_upto_if 41 with(fail)
     go_cut [9] (fun v wx=>v=.string ⟨(bg path.data.toList s).toArray⟩∧w8=wx)
     case first=>
      obtain⟨g,hg⟩:∃g,(!path.toList.isEmpty)=g:=⟨_,rfl⟩
      rw[hg]
      rw[ByteArray.toList_eq] at hg
      cases g with
      |false=>
       have hde:path.data.toList=[]:=by cases hc:path.data.toList with
        |nil=>rfl
        |cons x r=>rw[hc] at hg;cases hg
       have HJ:Hid (bg path.data.toList s=s):=by show _=_;rw[bg,if_pos hde]
       clear hde hg
       go_wp2_with fail
       go_meet
       exact⟨by rw[HJ.out],rfl⟩
      |true=>
       have hde:path.data.toList≠[]:=by intro hc;rw[hc] at hg;cases hg
       have HJ:Hid (path++⟨#[47]⟩++⟨s.toArray⟩=(⟨(bg path.data.toList s).toArray⟩:ByteArray)):=by
        show _=_
        rw[bg,if_neg hde,show path=⟨path.data.toList.toArray⟩ from rfl,show(⟨#[47]⟩:ByteArray)=⟨([47]:List UInt8).toArray⟩ from rfl,dW,dW,List.append_assoc,List.singleton_append]
       clear hde hg
       go_wp2_with fail
       go_meet
       exact⟨congrArg Value.string HJ.out,rfl⟩
     case rest=>
      obtain⟨rfl,rfl⟩:=hcut
      have hjs:(bg path.data.toList s).length≤49*(n+1):=by
       have:=dlen path
       unfold bg;split
       ·omega
       ·simp only[List.length_append,List.length_cons];omega
      have hcall:=HN.out ⟨(bg path.data.toList s).toArray⟩ q8 _ vl0 H8.out UH (by show(bg path.data.toList s).toArray.size≤_;simpa using hjs)
      rw[show(((n+1:Nat)):Int)=(n:Int)+1 by omega] at hcall
      have HC:=Lib.hid hcall
      clear hcall
      have e1:IntKind.i64.wrap ((n:Int)+1)=(n:Int)+1:=IntWalk.i64_in _ (by omega)
      go_wp2_with fail
      refine HC.out.mono ?_
      rintro e w9 ⟨rfl,⟨vl9,h9⟩,k9⟩
      have h9:lF B b gy S (dV S d (bg path.data.toList s) q8) w9 vl9:=h9
      obtain⟨q9,Af⟩:∃q9,dV S d (bg path.data.toList s) q8=q9:=⟨_,rfl⟩
      rw[Af] at h9 HD ZT
      have H9:=Lib.hid h9
      have K9:=Lib.hid (K8.out.trans k9)
      clear h9 k9 Af HC H8 K8
      go_wp2_with fail
      refine(iE H9.out ⟨#[41]⟩).mono ?_
      rintro e w10 ⟨rfl,h10,k10⟩
      have h10:lF B b gy S (aB S [aX] q9).2 w10 vl9:=h10
      have Gi:=Lib.hid h10
      have K10:=Lib.hid (K9.out.trans k10.rt)
      clear h10 k10
      go_wp2_with fail
      go_roundg f
      case measure=>omega
      case rel=>exact⟨s,_,vl9,rfl,hsl,by have:=ZT.out.2;omega,ZT.out.1 hl1,Gi,K10,HD⟩
  ·rw[if_neg hen] at HD
   have hb:(x1==[101,110,116,114,121])=false:=by rw[beq_eq_false_iff_ne];exact hen
   clear hen EP hla H0 K0
   go_wp2_with fail
   go_end0
   rw[HD.out]
   exact⟨rfl,⟨_,H1.out⟩,K1.out⟩
theorem ER:(Tryz.prog.info? 113).map (fun i=>(i.zero,i.size,i.bytes))=some (some (.agg #[.int .i64 0,.nilFunc]),2,16):=by kernel_rfl
theorem dD.one{w:World}{b:Nat}{j:Job}{f:Value}(h:dD w b j f):f.oneCell'=true:=by
 cases j with
 |word may act=>obtain⟨_,_,_,_,rfl,_⟩:=h;rfl
 |leads=>rw[show f=_ from h];rfl
 |name=>rw[show f=_ from h];rfl
 |keep k=>obtain⟨_,_,rfl,_⟩:=h;rfl
 |jB=>rw[show f=_ from h];rfl
 |oP=>rw[show f=_ from h];rfl
 |oC=>rw[show f=_ from h];rfl
theorem Sl.pR{w:World}{B:Nat}{E:TypeId}{size:Nat}{v:Value}{n:Nat}{xs:List Value}(h:Sl w B E size v n xs){k:Nat}(hk:v.ownBlock=some k):k<w.heap.size:=by
 obtain⟨-,⟨rfl,-⟩|⟨b',o',c',cc,rfl,-,h2,-⟩⟩:=h
 ·cases hk
 ·cases hk;exact h2.lt
theorem uK(us:List (Job×Value))(k:Nat)(h:k<us.length):(aW us)[k*2]? =some (.int .i64 (us[k].1.most:Nat))∧(aW us)[k*2+1]? =some us[k].2:=by
 have e:aW us=aW (us.take k)++(EG us[k]++aW (us.drop (k+1))):=by
  have e1:us=us.take k++(us[k] :: us.drop (k+1)):=by rw[←List.drop_eq_getElem_cons h,List.take_append_drop]
  have e2:aW (us[k] :: us.drop (k+1))=EG us[k]++aW (us.drop (k+1)):=rfl
  rw[←e2,←iR,←e1]
 have hl:(aW (us.take k)).length=k*2:=by rw[oU,List.length_take];omega
 refine⟨?_,?_⟩ <;> rw[e,List.getElem?_append_right (by omega),hl]
 ·simp[EG]
 ·rw[show k*2+1-k*2=1 by omega];simp[EG]
theorem Kp.gJ{B:Nat}{Ts:List TypeId}{a w:World}(h:Kp B Ts a.drew w):Kp B Ts a w:=⟨h.os,h.tape,h.output,h.size,h.block⟩
theorem Keeps.gJ{S:Nat→Prop}{a w:World}(h:Keeps S a.drew w):Keeps S a w:=⟨h.os,h.tape,h.output,h.size,h.block⟩
theorem SH{B b:Nat}{tail:PT}{ts:List (Job×Value)}{σ:aT}{w w1:World}{vr vt vl va:Value}(H:pq B b tail ts σ w vr vt vl va)(j:Job)(f:Value)(hj:dD w b j f)(C:Array Value)(ao:Option Addr)(cc n:Nat)(hn:n=ts.length+1)
 (hs:Sl w1 B 113 2 (.slice ao n cc) n (aW ts++[.int .i64 (j.most:Nat),f])) (hk:Kp B [113] (w.alloc (.cells C 113)) w1):
 pq B b tail (ts++[(j,f)]) σ (w1.setCell ⟨b,4,none⟩ (.slice ao n cc)) vr (.slice ao n cc) vl va∧Kp B [113,TB] w (w1.setCell ⟨b,4,none⟩ (.slice ao n cc)):=by
 subst hn
 have hk0:Kp B [113] w w1:=((Kp.refl _ _ _).alloc _).trans hk
 have b1:=H.blk.kp hk0 (.inr (by decide))
 have k2:Kp B [TB] w1 (w1.setCell ⟨b,4,none⟩ (.slice ao (ts.length+1) cc)):=(Kp.refl _ _ _).set b1 (.inr ⟨H.le,by simp⟩) _ _
 have b2:=b1.set 4 (.slice ao (ts.length+1) cc)
 rw[(fP ..).2.2.2.2.1] at b2
 have sub:∀T∈([113]:List TypeId),T∈zF:=by intro T hT;simp only[List.mem_singleton] at hT;subst hT;simp
 have Me:∀T∈([TB]:List TypeId),T∈zF:=by intro T hT;simp only[List.mem_singleton] at hT;subst hT;simp
 refine⟨⟨b2,H.le,(H.rest.kp hk0 (.inl (by decide))).kp k2 (.inl (by decide)),?_,(H.nodes.kp hk0 (.inl (by decide))).kp k2 (.inl (by decide)),(H.above.kp hk0 (.inl (by decide))).kp k2 (.inl (by decide)),?_,fun t ht=>⟨((H.kept t ht).1.kp hk0 (.inl (by decide))).kp k2 (.inl (by decide)),(H.kept t ht).2⟩⟩,(hk0.mono (.inr ⟨Nat.le_refl _,by simp⟩)).trans (k2.mono (.inr ⟨Nat.le_refl _,by simp⟩))⟩
 ·rw[List.length_append,iR]
  exact hs.kp k2 (.inl (by decide))
 ·intro t ht
  rcases List.mem_append.1 ht with ht|ht
  ·exact((H.jobs t ht).kp hk0 sub).kp k2 Me
  ·obtain rfl:=List.mem_singleton.1 ht
   exact(hj.kp hk0 sub).kp k2 Me
theorem ES{B b:Nat}{tail:PT}{ts:List (Job×Value)}{σ:aT}{w:World}{vr vt vl va:Value}(h:pq B b tail ts σ w vr vt vl va)(us:List (Job×Value))(bl ol cp:Nat)(hv:Sl w 0 113 2 (.slice (some ⟨bl,ol,none⟩) us.length cp) us.length (aW us))(hnb:vt.ownBlock≠some bl)
 (hj:∀t∈us,dD w b t.1 t.2) (hl:ts.length+us.length≤1099511627776):
 Calls Tryz.prog 45 #[.pointer (some ⟨b,0,none⟩),.slice (some ⟨bl,ol,none⟩) us.length cp] w fun ed w'=>ed=.returned (.tuple #[])∧PA B b tail (ts++us.reverse) σ w'∧Kp B [113,TB] w w':=by
 obtain⟨a0,c0,hsh,hcl,hcm⟩:=hv.shape
 cases hsh
 unfold maxLen at hcm
 have HV:=Lib.hid hv
 have H:=Lib.hid h
 have HJ:=Lib.hid hj
 have JK:=Lib.hid hnb
 clear hv h hj hnb
 go_enter Tryz.func45,Tryz.ntmps45
 go_wp2_with fail
 go_loopg [7] us.length (fun gk iv wr=>∃(k:Nat) (vt':Value),gk=us.length-k∧k≤us.length∧iv=.int .i64 k∧Hid (pq B b tail (ts++us.reverse.take k) σ wr vr vt' vl va)∧Hid (Kp B [113,TB] w wr)∧Hid (vt'.ownBlock≠some bl)∧Hid (Sl wr 0 113 2 (.slice (some ⟨bl,ol,none⟩) us.length cp) us.length (aW us)))
 case atStart=>exact⟨0,vt,rfl,Nat.zero_le _,rfl,by show pq _ _ _ _ _ _ _ _ _ _;simpa using H.out,Kp.refl _ _ _,JK,HV⟩
 case round=>
  clear H JK HV
  obtain⟨k,vt',rfl,hk,rfl,H,HK,JK,HV⟩:=hrel
  by_cases hlt:k<us.length
  ·obtain⟨i0,hi,hz0,hz1,hz2⟩:=info_parts ER
   have c4:wr.cell? ⟨b,4,none⟩=some vt':=(H.out.blk.cell 4).trans (aY ..).2.2.2.2.1
   have f4:=H.out.blk.free 4
   obtain⟨m,hm⟩:∃m,us.length=m+k+1:=⟨us.length-1-k,by omega⟩
   have hml:m<us.length:=by omega
   obtain⟨b',o',c',hsh,-,-,-,kZ,hcc,-⟩:=HV.out.pos (by omega)
   cases hsh
   have hat:=uK us m hml
   have d0:wr.cell? ⟨bl,ol+m*2,none⟩=some (.int .i64 (us[m].1.most:Nat)):=(hcc _ (by omega)).trans hat.1
   have d1:wr.cell? ⟨bl,ol+m*2+1,none⟩=some us[m].2:=(hcc _ (by omega)).trans hat.2
   have hone:=(HJ.out us[m] (List.getElem_mem hml)).one
   have hrev:us.reverse.take (k+1)=us.reverse.take k++[us[m]]:=by
    rw[List.take_succ_eq_append_getElem (by simp;omega)]
    congr 2
    rw[List.getElem_reverse]
    congr 1
    omega
   have ahI:=Lib.hid hrev
   have HUM:Hid (us[m]∈us):=List.getElem_mem hml
   generalize us[m]=u at *
   obtain⟨j,f⟩:=u
   simp only at d0 d1 hone
   have hlen:(ts++us.reverse.take k).length=ts.length+k:=by simp;omega
   have hsl:=H.out.todo
   have hblt:=H.out.lt
   have hbw:=H.out.le
   have e1:IntKind.i64.wrap ((us.length:Int)-1)=(us.length:Int)-1:=IntWalk.i64_in _ (by omega)
   have e2:IntKind.i64.wrap ((us.length:Int)-1-(k:Int))=(m:Int):=by rw[IntWalk.i64_in _ (by omega)];omega
   have e3:(0:Int)≤(m:Int):=by omega
   have e4:(m:Int)<(us.length:Int):=by omega
   have HM:=Lib.hid hm
   have Uh:=Lib.hid hlen
   have hl2:(ts++us.reverse.take k).length≤1099511627776:=by omega
   clear hat hcc hrev hm hlen
   go_upto_region 3 with(fail)
   have HJF:Hid (dD wr b j f):=(HJ.out _ HUM.out).kp HK.out (by intro T hT;simp only[List.mem_cons,List.not_mem_nil,or_false] at hT;rcases hT with rfl|rfl <;> simp)
   go_region_law (refine oL rfl _ _ 103 103 rfl 113 i0 _ 2 16 Tryz.underlying103 hi hz0 hz1 hz2 rfl B vt' _ _ rfl _ rfl 1 [.int .i64 (j.most:Nat),f] (by simp;omega) (by first|exact hsl.alloc _|exact hsl) (by first|exact Src.kP Tryz.underlying103 (Sl.dM wr 0 (Nat.zero_le _) 113 2 1 [.int .i64 (j.most:Nat),f] rfl (by simp[maxLen])) (by intro u hu;simp only[List.mem_cons,List.not_mem_nil,or_false] at hu;rcases hu with rfl|rfl;rfl;exact hone)) (by unfold maxLen;omega) (by omega) ?_;intro ao cc w1 hs1 hk1 lW hb1;have iy:=Lib.hid (Kp.gJ hk1);have ahJ:=Lib.hid (Keeps.gJ lW);have oI:=Lib.hid hs1;have HB1:=Lib.hid hb1;have B1:=Lib.hid ((H.out.blk.alloc (.cells #[.int .i64 (j.most:Nat),f] 113)).kp iy.out (.inr (by decide)));have c41:w1.cell? ⟨b,4,none⟩=some vt':=(B1.out.cell 4).trans (aY ..).2.2.2.2.1;have f41:=B1.out.free 4;clear hs1 hk1 lW hb1)
   all_goals (
    have hst:=SH H.out j f HJF.out _ ao cc (ts.length+k+1) (by rw[Uh.out]) (by have h1:=oI.out;rw[Uh.out] at h1;exact h1) iy.out
    have HST:=Lib.hid hst
    clear hst
    go_wp2_with fail
    go_roundg (us.length-(k+1)))
   all_goals first
    |(case measure=>omega)
    |(case rel=>
       refine⟨k+1,_,rfl,by omega,by go_num,by rw[ahI.out,←List.append_assoc];exact HST.out.1,HK.out.trans HST.out.2,?_,?_⟩
       ·show ¬_
        have hb1:=HB1.out
        rw[Uh.out] at hb1
        rcases hb1 with e|e
        ·rw[e];exact JK.out
        ·rw[e];intro e2;simp at e2;omega
       ·refine(HV.out.keep fun b' c' ho _ hb=>?_)
        cases ho
        have h1:aS w1 bl c' 113:=(hb.alloc _).keeps ahJ.out (fun e=>JK.out e)
        exact h1.jT _ _ (fun e=>absurd (h1.inj (by simp only at e;subst e;exact B1.out)).2 (by decide)))
  ·have hkl:k=us.length:=by omega
   have HF:Hid (us.reverse.take k=us.reverse):=List.take_of_length_le (by simp;omega)
   clear hkl
   go_wp2_with fail
   go_end0
   refine⟨rfl,?_,HK.out⟩
   have:=H.out
   rw[HF.out] at this
   exact⟨_,_,_,_,this⟩
end Go.Proofs.YtdkogijdfgfpeaaGreatDoor

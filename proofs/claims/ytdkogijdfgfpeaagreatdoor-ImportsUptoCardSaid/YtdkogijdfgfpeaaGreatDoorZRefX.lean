/- narref.reader: node. -/
import Derived.Test.YtdkogijdfgfpeaaGreatDoorZRefS
import Derived.Test.YtdkogijdfgfpeaaGreatDoorZPackw
import Derived.Test.YtdkogijdfgfpeaaGreatDoorZShape
import Derived.Test.YtdkogijdfgfpeaaGreatDoorZClosP
import Derived.Test.YtdkogijdfgfpeaaGreatDoorZGet
import Derived.Test.YtdkogijdfgfpeaaGreatDoorZPack
set_option linter.unusedVariables false
namespace Go.Proofs.YtdkogijdfgfpeaaGreatDoor
open Go Go.RowKit
set_option maxHeartbeats 3200000
set_option maxRecDepth 100000
theorem AX:(Tryz.prog.info? 49).map (fun i=>(i.zero,i.size,i.bytes))=some (some (.agg #[.string ⟨#[]⟩,.int .i64 0,.string ⟨#[]⟩]),3,40):=by kernel_rfl
theorem AY{B b:Nat}{gy:List (Value×List Node)}{S:List UInt8}{q:RQ}{w w1:World}{vl:Value}(H:lF B b gy S q w vl)(p:List UInt8)(k:Int)(d:List UInt8)(C:Array Value)(ao:Option Addr)(cc n:Nat)(hn:n=q.l.length+1)
 (hs:Sl w1 B 49 3 (.slice ao n cc) n (ak q.l++[sv p,.int .i64 k,sv d])) (hk:Kp B [49] (w.alloc (.cells C 49)) w1)
 (hp:∀(B':Nat) (t:Value) (k:Nat) (ys:List Value),Sl (w.alloc (.cells C 49)) B' 49 3 t k ys→Ahead 3 vl t→Sl w1 B' 49 3 t k ys∧Ahead 3 (.slice ao n cc) t):
 lF B b gy S (q.add ⟨p,k,d⟩) (w1.setCell ⟨b,4,none⟩ (.slice ao n cc)) (.slice ao n cc)∧Kp B jd w (w1.setCell ⟨b,4,none⟩ (.slice ao n cc)):=by
 subst hn
 have hk0:Kp B [49] w w1:=((Kp.refl _ _ _).alloc _).trans hk
 have b1:=H.blk.kp hk0 (.inr (by decide))
 have k2:Kp B [RT] w1 (w1.setCell ⟨b,4,none⟩ (.slice ao (q.l.length+1) cc)):=(Kp.refl _ _ _).set b1 (.inr ⟨H.le,by simp⟩) _ _
 have b2:=b1.set 4 (.slice ao (q.l.length+1) cc)
 have e6:(#[sv S,.int .i64 (q.at':Int),.int .i64 q.e,.int .i64 q.bad,vl]:Array Value).setIfInBounds 4 (.slice ao (q.l.length+1) cc)=#[sv S,.int .i64 (q.at':Int),.int .i64 q.e,.int .i64 q.bad,.slice ao (q.l.length+1) cc]:=by simp
 rw[e6] at b2
 refine⟨⟨b2,H.le,?_,H.small,H.jR,fun t ht=>by
  have h1:=hp B t.1 _ _ ((H.kept t ht).1.alloc _) (H.kept t ht).2
  exact⟨h1.1.kp k2 (.inl (by decide)),h1.2⟩⟩,(hk0.mono (.inr ⟨Nat.le_refl _,by simp⟩)).trans (k2.mono (.inr ⟨Nat.le_refl _,by simp⟩))⟩
 rw[show(q.add ⟨p,k,d⟩).l=q.l++[⟨p,k,d⟩] from rfl,List.length_append,gW]
 exact hs.kp k2 (.inl (by decide))
theorem ET(S:List UInt8)(q:RQ):(lH S true q).1=[]:=by
 unfold lH
 have hb:((aB S [gI] q).2.fail 8 q.at').e≠0:=by
  rw[RQ.fail];split
  ·show(8:Int)≠0;decide
  ·assumption
 rw[if_pos rfl,tV hb,bC hb,bC hb]
def EU(S:List UInt8)(d:Nat)(path:List UInt8)(x:List UInt8×RQ):RQ:=
 if x.1=fA then uU S path x.2 else if x.1=fB then uV S path x.2 else if x.1=jm then (match d with|0=>x.2|d+1=>jS S (dV S d) path (S.length+1) [] (x.2.add ⟨path,4,[]⟩)) else x.2
theorem O9(S:List UInt8)(path:List UInt8)(q:RQ):∀d:Nat,dV S d path q=EU S d path (lH S (decide (d=0)) q)
 |0=>by rw[dV,EU];simp only[decide_true,ET];rfl
 |d+1=>by rw[dV,EU];rfl
theorem EW{S:List UInt8}{B b d n:Nat}{gy:List (Value×List Node)}(hdn:d+n=6)(hD:∀(d':Nat) (path:ByteArray) (q:RQ) (w:World) (vl:Value),d=d'+1→lF B b gy S q w vl→q.l.length≤30→path.size≤49*n→
 Calls Tryz.prog 154 #[.pointer (some ⟨b,0,none⟩),.string path,.int .i64 n] w fun ed w'=>ed=.returned (.tuple #[])∧(∃vl',lF B b gy S (jS S (dV S d') path.data.toList (S.length+1) [] q) w' vl')∧Kp B jd w w'):Wu S B b gy d n:=by
 intro path q w vl h hl hp
 obtain⟨R,hR⟩:∃R,dV S d path.data.toList q=R:=⟨_,rfl⟩
 rw[hR]
 rw[O9] at hR
 have HR:=Lib.hid hR
 have H:=Lib.hid h
 have HD:=Lib.hid hD
 have hbl:=h.blk.lt
 have hBb:=h.le
 have c1:w.cell? ⟨b,1,none⟩=some (.int .i64 q.at'):=h.blk.cell 1
 have hps:path.size≤294:=by omega
 clear hR h hD
 go_enter Tryz.func128,Tryz.ntmps128
 go_wp2_with fail
 refine(iE H.out ⟨#[40]⟩).mono ?_
 rintro e w1 ⟨rfl,h1,k1⟩
 have h1:lF B b gy S (aB S [gI] q).2 w1 vl:=h1
 have Ul:=(bQ S [gI] q).1
 obtain⟨q1,hq1⟩:∃q1,(aB S [gI] q).2=q1:=⟨_,rfl⟩
 rw[hq1] at h1 Ul
 have HQ1:=Lib.hid hq1
 have H1:=Lib.hid h1
 have K1:=Lib.hid k1.rt
 clear h1 k1 hq1 c1
 go_upto_if 17 with(fail)
 obtain⟨q2,hq2⟩:∃q2,(if decide (d=0)=true then q1.fail 8 q.at' else q1)=q2:=⟨_,rfl⟩
 go_cut [] (fun wx=>Hid (lF B b gy S q2 wx vl)∧Hid (Kp B jd w wx))
 case first=>
  obtain⟨g,hg⟩:∃g,decide ((5:Int)<(n:Int))=g:=⟨_,rfl⟩
  rw[hg]
  cases g with
  |true=>
   have hd0:d=0:=by simp at hg;omega
   rw[if_pos (by simp[hd0])] at hq2
   subst hq2
   clear hg hd0
   go_wp2_with fail
   refine(dP H1.out 8 _).mono ?_
   rintro e w2 ⟨rfl,h2,k2⟩
   have H2:=Lib.hid h2
   have K2:=Lib.hid (K1.out.trans k2.rt)
   clear h2 k2
   go_wp2_with fail
   go_meet
   exact⟨H2,K2⟩
  |false=>
   have hd0:d≠0:=by simp at hg;omega
   rw[if_neg (by simp[hd0])] at hq2
   subst hq2
   clear hg hd0
   go_wp2_with fail
   go_meet
   exact⟨H1,K1⟩
 case rest=>
  obtain⟨H2,K2⟩:=hcut
  have YR:q2.l=q.l:=by
   rw[←hq2,←Ul];split
   ·exact(kT ..).1
   ·rfl
  have Qv:=Lib.hid hq2
  have RN:=Lib.hid YR
  obtain⟨a2,cp2,hsh,-,-⟩:=H2.out.nodes.shape
  subst hsh
  have c4:wc.cell? ⟨b,4,none⟩=some (.slice a2 q2.l.length cp2):=H2.out.blk.cell 4
  clear hq2 H1 K1 Ul YR
  go_upto_if 26 with(fail)
  obtain⟨q3,hq3⟩:∃q3,lU q2 q.at'=q3:=⟨_,rfl⟩
  go_cut [] (fun wx=>Hid (lF B b gy S q3 wx (.slice a2 q2.l.length cp2))∧Hid (Kp B jd w wx))
  case first=>
   obtain⟨g,hg⟩:∃g,((q2.l.length:Int)==30)=g:=⟨_,rfl⟩
   rw[hg]
   rw[lU] at hq3
   cases g with
   |true=>
    rw[if_pos (by simp at hg;omega)] at hq3
    subst hq3
    clear hg
    go_wp2_with fail
    refine(dP H2.out 9 _).mono ?_
    rintro e w3 ⟨rfl,h3,k3⟩
    have H3:=Lib.hid h3
    have K3:=Lib.hid (K2.out.trans k3.rt)
    clear h3 k3
    go_wp2_with fail
    go_meet
    exact⟨H3,K3⟩
   |false=>
    rw[if_neg (by rw[beq_eq_false_iff_ne] at hg;omega)] at hq3
    subst hq3
    clear hg
    go_wp2_with fail
    go_meet
    exact⟨H2,K2⟩
  case rest=>
   obtain⟨H3,K3⟩:=hcut
   generalize Value.slice a2 q2.l.length cp2=Js at H3
   have adK:q3.l=q.l:=by rw[←hq3,←RN.out];exact(MH ..).1
   have YV:=Lib.hid hq3
   clear hq3 H2 K2 c4
   go_wp2_with fail
   refine(iE H3.out ⟨#[116,121,112,101]⟩).mono ?_
   rintro e w4 ⟨rfl,h4,k4⟩
   have h4:lF B b gy S (aB S [nD] q3).2 w4 Js:=h4
   have abb:(aB S [nD] q3).2.l=q.l:=by rw[(bQ ..).1,adK]
   obtain⟨q4,hq4⟩:∃q4,(aB S [nD] q3).2=q4:=⟨_,rfl⟩
   rw[hq4] at h4 abb
   have HQ4:=Lib.hid hq4
   have H4:=Lib.hid h4
   have K4:=Lib.hid (K3.out.trans k4.rt)
   clear h4 k4 hq4 H3 K3 adK
   go_wp2_with fail
   refine(qC (H4.out.keeps ((Keeps.refl _ _).alloc _)) [fA,fB,jm] _ (aP w4 3 _ [fA,fB,jm] _ rfl rfl rfl (by simp))).mono ?_
   rintro e w5 ⟨rfl,h5,k5⟩
   have hx:lH S (decide (d=0)) q=aB S [fA,fB,jm] q4:=by
    unfold lH
    rw[HQ1.out,Qv.out,YV.out,HQ4.out]
   have Wx:(aB S [fA,fB,jm] q4).2.l=q.l:=by rw[(bQ ..).1,abb]
   have hne:(aB S [fA,fB,jm] q4).1≠[]→q.l.length≠30:=by rw[←hx];exact MJ
   have hd0:d=0→(aB S [fA,fB,jm] q4).1=[]:=fun e=>by rw[←hx,e];exact ET S q
   have hRk:=HR.out
   rw[hx] at hRk
   obtain⟨x,hxx⟩:∃x,aB S [fA,fB,jm] q4=x:=⟨_,rfl⟩
   rw[hxx] at h5 Wx hne hd0 hRk ⊢
   obtain⟨x1,q5⟩:=x
   simp only at h5 Wx hne hd0 ⊢
   have hl5:q5.l.length≤30:=by rw[Wx];exact hl
   have HL5:Hid (q5.l=q.l):=Wx
   have H5:=Lib.hid h5
   have K5:=Lib.hid (K4.out.trans (((Kp.refl _ _ _).alloc _).trans k5.rt))
   have ZU:=Lib.hid hRk
   have Q5:=Lib.hid hne
   have HD0:=Lib.hid hd0
   clear h5 k5 hx hxx hne hd0 hRk HR HQ1 Qv YV HQ4 H4 K4 abb Wx
   by_cases hF:x1=fA
   ·subst hF
    have KX:Hid (uU S path.data.toList q5=R):=by
     show _=_;rw[←ZU.out];unfold EU;rw[if_pos rfl]
    clear ZU Q5 HD0 HD
    go_wp2_with fail
    refine(qC (H5.out.keeps ((Keeps.refl _ _).alloc _)) [jP,gK] _ (aP w5 2 _ [jP,gK] _ rfl rfl rfl (by simp))).mono ?_
    rintro e w6 ⟨rfl,h6,k6⟩
    have ZV:=(bQ S [jP,gK] q5).1
    have JO:=KX.out
    rw[uU] at JO
    obtain⟨y,hy⟩:∃y,aB S [jP,gK] q5=y:=⟨_,rfl⟩
    rw[hy] at h6 ZV JO ⊢
    obtain⟨y1,q6⟩:=y
    simp only at h6 ZV JO ⊢
    have H6:=Lib.hid h6
    have K6:=Lib.hid (K5.out.trans (((Kp.refl _ _ _).alloc _).trans k6.rt))
    have HL6:=Lib.hid ZV
    have adL:=Lib.hid JO
    clear h6 k6 hy ZV JO KX H5 K5
    go_upto_if 40 with(fail)
    obtain⟨t8,Vr⟩:∃t8:Int×RQ,(if y1=jP then ((2:Int),(aB S [gK] (aB S [[]] q6).2).2) else (1,q6))=t8:=⟨_,rfl⟩
    go_cut [7] (fun kv wx=>kv=.int .i64 t8.1∧Hid (lF B b gy S t8.2 wx Js)∧Hid (Kp B jd w wx))
    case first=>
     obtain⟨g,hg⟩:∃g,(y1==[101,120,101,99])=g:=⟨_,rfl⟩
     rw[hg]
     cases g with
     |true=>
      rw[if_pos (by simpa using hg)] at Vr
      subst Vr
      clear hg
      go_wp2_with fail
      refine(iE H6.out ⟨#[]⟩).mono ?_
      rintro e w7 ⟨rfl,h7,k7⟩
      have h7:lF B b gy S (aB S [[]] q6).2 w7 Js:=h7
      have H7:=Lib.hid h7
      have K7:=Lib.hid (K6.out.trans k7.rt)
      clear h7 k7
      go_wp2_with fail
      refine(iE H7.out ⟨#[100,97,116,97]⟩).mono ?_
      rintro e w8 ⟨rfl,h8,k8⟩
      have h8:lF B b gy S (aB S [gK] (aB S [[]] q6).2).2 w8 Js:=h8
      have H8:=Lib.hid h8
      have K8:=Lib.hid (K7.out.trans k8.rt)
      clear h8 k8
      go_wp2_with fail
      go_meet
      exact⟨rfl,H8,K8⟩
     |false=>
      rw[if_neg (by rw[beq_eq_false_iff_ne] at hg;exact hg)] at Vr
      subst Vr
      clear hg
      go_wp2_with fail
      go_meet
      exact⟨rfl,H6,K6⟩
    case rest=>
     obtain⟨rfl,H8,K8⟩:=hcut
     have hR8:(aB S [aX] ((aV S 100 t8.2).2.add ⟨path.data.toList,t8.1,(aV S 100 t8.2).1⟩)).2=R:=by
      rw[←adL.out,←Vr]
      split <;> rfl
     have UH:t8.2.l.length≤30:=by
      rw[←Vr]
      split
      ·simp only[(bQ ..).1,HL6.out];exact hl5
      ·rw[HL6.out];exact hl5
     clear Vr adL HL6 H6 K6
     obtain⟨kk,q8⟩:=t8
     simp only at hR8 UH H8 ⊢
     have HR8:=Lib.hid hR8
     clear hR8
     go_upto_region 14 with(fail)
     obtain⟨i0,hi,hz0,hz1,hz2⟩:=info_parts AX
     have c4:wc.cell? ⟨b,4,none⟩=some Js:=H8.out.blk.cell 4
     have Y6:=(lI S 100 q8).1
     obtain⟨y,hy⟩:∃y,aV S 100 q8=y:=⟨_,rfl⟩
     have Ad:Hid (∀n:Nat,Calls Tryz.prog 110 #[.pointer (some ⟨b,0,none⟩),.int .i64 100] (wc.drewN n) fun ed w'=>ed=.returned (.string ⟨y.1.toArray⟩)∧lF B b gy S y.2 w' Js∧Kp B jd w w'):=by
      intro n
      have h1:=oV (H8.out.keeps ((Keeps.refl _ _).drewN n)) 100 (by omega)
      rw[hy] at h1
      exact h1.mono fun ed w' ⟨h1,h2,h3⟩=>⟨h1,h2,(K8.out.drewN n).trans h3.rt⟩
     rw[hy] at HR8 Y6
     obtain⟨t,q9⟩:=y
     simp only at HR8 Y6 Ad
     have hl9:q9.l.length≤30:=by rw[Y6];exact UH
     clear hy Y6 h1 h4
     go_region_law (first
      |(go_simp
        go_at_call 110
        refine(Ad.out 1).mono ?_
        rintro e w9 ⟨rfl,h9,k9⟩
        have H9:=Lib.hid h9
        have K9:=Lib.hid k9
        have c9:w9.cell? ⟨b,4,none⟩=some Js:=h9.blk.cell 4
        have abd:=h9.nodes
        have ahN:=h9.blk.lt
        clear h9 k9)
      |(refine oQ rfl _ _ 50 50 rfl 49 i0 _ 3 40 Tryz.underlying50 hi hz0 hz1 hz2 rfl B Js _ _ rfl _ rfl 1 [.string path,.int .i64 kk,.string ⟨t.toArray⟩] (by simp;omega) (by first|exact abd.alloc _|exact abd) (by first|exact Src.kP Tryz.underlying50 (Sl.dM _ 0 (Nat.zero_le _) 49 3 1 [.string path,.int .i64 kk,.string ⟨t.toArray⟩] rfl (by simp[maxLen])) (by intro u hu;simp only[List.mem_cons,List.not_mem_nil,or_false] at hu;rcases hu with rfl|rfl|rfl <;> rfl)) (by unfold maxLen;omega) (by omega) ?_
        intro ao cc w10 hs1 hk1 lW hb1 ML
        have iy:=Lib.hid hk1
        have oI:=Lib.hid hs1
        have adM:=Lib.hid ML
        have B1:=Lib.hid ((H9.out.blk.alloc (.cells #[.string path,.int .i64 kk,.string ⟨t.toArray⟩] 49)).kp iy.out (.inr (by decide)))
        have c41:w10.cell? ⟨b,4,none⟩=some Js:=B1.out.cell 4
        have f41:=B1.out.free 4
        clear hs1 hk1 lW hb1 ML))
     all_goals (
      have hst:=AY H9.out path.data.toList kk t _ ao cc (q9.l.length+1) rfl (by have h1:=oI.out;simpa [sv] using h1) iy.out adM.out
      have Gi:=Lib.hid hst.1
      have K10:=Lib.hid (K9.out.trans hst.2)
      generalize World.setCell w10 _ _=w11 at *
      clear hst iy oI adM B1 c41 f41 abd ahN c9 H9 K9 Ad c4 hi hz0 hz1 hz2
      go_wp2_with fail
      refine(iE Gi.out ⟨#[41]⟩).mono ?_
      rintro e w12 ⟨rfl,h12,k12⟩
      have h12:lF B b gy S (aB S [aX] (q9.add ⟨path.data.toList,kk,t⟩)).2 w12 _:=h12
      rw[HR8.out] at h12
      have Y7:=Lib.hid h12
      have K12:=Lib.hid (K10.out.trans k12.rt)
      clear h12 k12
      go_wp2_with fail
      go_end0
      exact⟨rfl,⟨_,Y7.out⟩,K12.out⟩)
   have hb1:(x1==[102,105,108,101])=false:=by rw[beq_eq_false_iff_ne];exact hF
   by_cases hL:x1=fB
   ·subst hL
    have JO:uV S path.data.toList q5=R:=by
     rw[←ZU.out];unfold EU;rw[if_neg (by show fB≠fA;decide),if_pos rfl]
    clear ZU Q5 HD0 HD hF hb1
    go_wp2_with fail
    refine(iE H5.out ⟨#[116,111]⟩).mono ?_
    rintro e w6 ⟨rfl,h6,k6⟩
    have h6:lF B b gy S (aB S [Lr] q5).2 w6 Js:=h6
    have ZV:=(bQ S [Lr] q5).1
    unfold uV at JO
    obtain⟨q6,hy⟩:∃q6,(aB S [Lr] q5).2=q6:=⟨_,rfl⟩
    rw[hy] at h6 ZV JO
    have H6:=Lib.hid h6
    have K6:=Lib.hid (K5.out.trans k6.rt)
    have c1:w6.cell? ⟨b,1,none⟩=some (.int .i64 q6.at'):=h6.blk.cell 1
    clear h6 k6 hy H5 K5
    go_wp2_with fail
    refine(oV H6.out 100 (by omega)).mono ?_
    rintro e w7 ⟨rfl,h7,k7⟩
    have hsl:=xG S 100 q6
    have hl7:=(lI S 100 q6).1
    obtain⟨y,hy⟩:∃y,aV S 100 q6=y:=⟨_,rfl⟩
    rw[hy] at h7 hsl JO hl7 ⊢
    obtain⟨t,q7⟩:=y
    simp only at h7 hsl JO hl7 ⊢
    have H7:=Lib.hid h7
    have K7:=Lib.hid (K6.out.trans k7.rt)
    have KX:=Lib.hid JO
    have HL7:Hid (q7.l=q5.l):=by show _=_;rw[hl7,ZV]
    clear h7 k7 hy c1 H6 K6 ZV hl7 JO
    go_wp2_with fail
    refine(rE 3 ⟨t.toArray⟩ _ (by show t.toArray.size≤_;simp[maxLen];omega)).mono ?_
    rintro e w8 ⟨rfl,rfl⟩
    rw[show aZ 3 (⟨t.toArray⟩:ByteArray).data.toList=aZ 3 t from rfl]
    go_upto_if 73 with(fail)
    obtain⟨q8,hq8⟩:∃q8,(if aZ 3 t=true then q7 else q7.fail 6 q6.at')=q8:=⟨_,rfl⟩
    rw[hq8] at KX
    go_cut [] (fun wx=>Hid (lF B b gy S q8 wx Js)∧Hid (Kp B jd w wx))
    case first=>
     cases hd:aZ 3 t with
     |true=>
      rw[hd,if_pos rfl] at hq8
      subst hq8
      clear hd
      go_wp2_with fail
      go_meet
      exact⟨H7,K7⟩
     |false=>
      rw[hd,if_neg (by decide)] at hq8
      subst hq8
      clear hd
      go_wp2_with fail
      refine(dP H7.out 6 _).mono ?_
      rintro e w9 ⟨rfl,h9,k9⟩
      have H9:=Lib.hid h9
      have K9:=Lib.hid (K7.out.trans k9.rt)
      clear h9 k9
      go_wp2_with fail
      go_meet
      exact⟨H9,K9⟩
    case rest=>
     obtain⟨H8,K8⟩:=hcut
     have UH:q8.l.length≤30:=by
      rw[←hq8];split
      ·rw[HL7.out];exact hl5
      ·rw[(kT ..).1,HL7.out];exact hl5
     clear hq8 H7 K7 HL7 h1 h4
     obtain⟨i0,hi,hz0,hz1,hz2⟩:=info_parts AX
     have c4:wc.cell? ⟨b,4,none⟩=some Js:=H8.out.blk.cell 4
     have Wy:=H8.out.nodes
     have abe:=H8.out.blk.lt
     go_wp2_with (at_builtin;refine mW rfl _ _ 50 50 rfl 49 i0 _ 3 40 Tryz.underlying50 hi hz0 hz1 hz2 rfl B Js _ _ rfl _ rfl 1 [.string path,.int .i64 3,.string ⟨t.toArray⟩] ?c1 (Wy.alloc _) ?c2 ?c3 ?c4 ?_)
     case c1=>simp;omega
     case c2=>exact Src.kP Tryz.underlying50 (Sl.dM _ 0 (Nat.zero_le _) 49 3 1 [.string path,.int .i64 3,.string ⟨t.toArray⟩] rfl (by simp[maxLen])) (by intro u hu;simp only[List.mem_cons,List.not_mem_nil,or_false] at hu;rcases hu with rfl|rfl|rfl <;> rfl)
     case c3=>unfold maxLen;omega
     case c4=>omega
     intro ao cc w10 hs1 hk1 lW hb1 ML
     have B1:=(H8.out.blk.alloc (.cells #[.string path,.int .i64 3,.string ⟨t.toArray⟩] 49)).kp hk1 (.inr (by decide))
     have c41:w10.cell? ⟨b,4,none⟩=some Js:=B1.cell 4
     have f41:=B1.free 4
     have hst:=AY H8.out path.data.toList 3 t _ ao cc (q8.l.length+1) rfl (by have h1:=hs1;simpa [sv] using h1) hk1 ML
     have HST:=Lib.hid hst
     clear hs1 hk1 lW hb1 ML hst B1 c4 Wy abe hi hz0 hz1 hz2
     go_wp2_with fail
     have Gi:=Lib.hid HST.out.1
     have K10:=Lib.hid (K8.out.trans HST.out.2)
     clear HST
     generalize World.setCell w10 _ _=w11 at *
     refine(iE Gi.out ⟨#[41]⟩).mono ?_
     rintro e w12 ⟨rfl,h12,k12⟩
     have h12:lF B b gy S (aB S [aX] (q8.add ⟨path.data.toList,3,t⟩)).2 w12 _:=h12
     rw[KX.out] at h12
     have Y7:=Lib.hid h12
     have K12:=Lib.hid (K10.out.trans k12.rt)
     clear h12 k12 c41 f41
     go_wp2_with fail
     go_end0
     exact⟨rfl,⟨_,Y7.out⟩,K12.out⟩
   have hb2:(x1==[108,105,110,107])=false:=by rw[beq_eq_false_iff_ne];exact hL
   by_cases hDr:x1=jm
   ·subst hDr
    have alW:d≠0:=fun e=>absurd (HD0.out e) (by decide)
    obtain⟨d',rfl⟩:∃d',d=d'+1:=⟨d-1,by omega⟩
    have JO:jS S (dV S d') path.data.toList (S.length+1) [] (q5.add ⟨path.data.toList,4,[]⟩)=R:=by
     rw[←ZU.out];unfold EU;rw[if_neg (by show jm≠fA;decide),if_neg (by show jm≠fB;decide),if_pos rfl]
    have h30:=Q5.out (by decide)
    have KX:=Lib.hid JO
    have ahP:(q5.add ⟨path.data.toList,4,[]⟩).l.length≤30:=by
     rw[←HL5.out] at h30
     simp only[RQ.add,List.length_append,List.length_cons,List.length_nil]
     omega
    clear ZU Q5 HD0 hF hL hb1 hb2 JO h1 h4
    obtain⟨i0,hi,hz0,hz1,hz2⟩:=info_parts AX
    have c4:w5.cell? ⟨b,4,none⟩=some Js:=H5.out.blk.cell 4
    have Wy:=H5.out.nodes
    have abe:=H5.out.blk.lt
    go_wp2_with (at_builtin;refine mW rfl _ _ 50 50 rfl 49 i0 _ 3 40 Tryz.underlying50 hi hz0 hz1 hz2 rfl B Js _ _ rfl _ rfl 1 [.string path,.int .i64 4,.string ⟨#[]⟩] ?c1 (Wy.alloc _) ?c2 ?c3 ?c4 ?_)
    case c1=>simp;omega
    case c2=>exact Src.kP Tryz.underlying50 (Sl.dM _ 0 (Nat.zero_le _) 49 3 1 [.string path,.int .i64 4,.string ⟨#[]⟩] rfl (by simp[maxLen])) (by intro u hu;simp only[List.mem_cons,List.not_mem_nil,or_false] at hu;rcases hu with rfl|rfl|rfl <;> rfl)
    case c3=>unfold maxLen;omega
    case c4=>omega
    intro ao cc w10 hs1 hk1 lW hb1 ML
    have B1:=(H5.out.blk.alloc (.cells #[.string path,.int .i64 4,.string ⟨#[]⟩] 49)).kp hk1 (.inr (by decide))
    have c41:w10.cell? ⟨b,4,none⟩=some Js:=B1.cell 4
    have f41:=B1.free 4
    have hst:=AY H5.out path.data.toList 4 [] _ ao cc (q5.l.length+1) rfl (by have h1:=hs1;simpa [sv] using h1) hk1 ML
    have HST:=Lib.hid hst
    clear hs1 hk1 lW hb1 ML hst B1 c4 Wy abe hi hz0 hz1 hz2
    go_wp2_with fail
    have Gi:=Lib.hid HST.out.1
    have K10:=Lib.hid (K5.out.trans HST.out.2)
    clear HST
    generalize World.setCell w10 _ _=w11 at *
    refine(HD.out d' path _ _ _ rfl Gi.out ahP hp).mono ?_
    rintro e w12 ⟨rfl,⟨MN,h12⟩,k12⟩
    rw[KX.out] at h12
    have Y7:=Lib.hid h12
    have K12:=Lib.hid (K10.out.trans k12)
    clear h12 k12 c41 f41
    go_wp2_with fail
    go_end0
    exact⟨rfl,⟨_,Y7.out⟩,K12.out⟩
   ·have hb3:(x1==[100,105,114])=false:=by rw[beq_eq_false_iff_ne];exact hDr
    have JO:q5=R:=by
     rw[←ZU.out];unfold EU;rw[if_neg hF,if_neg hL,if_neg hDr]
    have KX:=Lib.hid JO
    clear ZU Q5 HD0 HD hF hL hDr JO h1 h4
    go_wp2_with fail
    go_end0
    rw[←KX.out]
    exact⟨rfl,⟨_,H5.out⟩,K5.out⟩
theorem Io(S:List UInt8)(B b:Nat)(gy:List (Value×List Node)):∀d n:Nat,d+n=6→Wu S B b gy d n
 |0,n,h=>EW h (fun d' _ _ _ _ e=>absurd e (by omega))
 |d+1,n,h=>EW h (fun d' path q w vl e hR hl hp=>by
   have e2:d=d':=by omega
   subst e2
   exact Wv (Io S B b gy d (n+1) (by omega)) (by omega) hR hl path hp)
def wH:RQ:=⟨0,0,0,[]⟩
def RQ.clear(q:RQ):RQ:={q with l:=[]}
def pz(S:List UInt8)(q:RQ):RQ:=dV S 6 [] (aB S [nT] q.clear).2
def zH(S:List UInt8)(q:RQ):RQ:=if q.at'<S.length then q.fail 10 q.at' else q
theorem WA{S:List UInt8}{B b:Nat}{gy:List (Value×List Node)}{q:RQ}{w:World}{vl:Value}(h:lF B b gy S q w vl):
 Calls Tryz.prog 112 #[.pointer (some ⟨b,0,none⟩)] w fun ed w'=>ed=.returned (.tuple #[])∧(∃vl',lF B b gy S (pz S q) w' vl')∧Kp B jd w w':=by
 have c4:w.cell? ⟨b,4,none⟩=some vl:=h.blk.cell 4
 have f4:=h.blk.free 4
 have k:=h.wF 4 (.slice none 0 0)
 have b2:=h.blk.set 4 (.slice none 0 0)
 have e6:(#[sv S,.int .i64 (q.at':Int),.int .i64 q.e,.int .i64 q.bad,vl]:Array Value).setIfInBounds 4 (.slice none 0 0)=#[sv S,.int .i64 (q.at':Int),.int .i64 q.e,.int .i64 q.bad,.slice none 0 0]:=by simp
 rw[e6] at b2
 have h1:lF B b gy S q.clear (w.setCell ⟨b,4,none⟩ (.slice none 0 0)) (.slice none 0 0):=⟨b2,h.le,Sl.nil _ _ _ _,h.small,h.jR,fun t ht=>⟨(h.kept t ht).1.kp k (.inl (by decide)),tN _ _ _ _⟩⟩
 have H1:=Lib.hid h1
 have K1:=Lib.hid k.rt
 clear h h1 k b2 e6
 go_enter Tryz.func112,Tryz.ntmps112
 go_wp2_with fail
 generalize World.setCell w _ _=w1 at *
 clear c4 f4
 refine(iE H1.out ⟨#[110,97,114,45,49]⟩).mono ?_
 rintro e w2 ⟨rfl,h2,k2⟩
 have h2:lF B b gy S (aB S [nT] q.clear).2 w2 (.slice none 0 0):=h2
 have hl:(aB S [nT] q.clear).2.l.length≤30:=by rw[(bQ ..).1];simp[RQ.clear]
 have H2:=Lib.hid h2
 have K2:=Lib.hid (K1.out.trans k2.rt)
 clear h2 k2
 have hc:=Io S B b gy 6 0 rfl ⟨#[]⟩ _ w2 _ H2.out hl (by show(0:Nat)≤_;omega)
 have HC:=Lib.hid hc
 clear hc
 go_wp2_with fail
 refine HC.out.mono ?_
 rintro e w3 ⟨rfl,⟨Js,h3⟩,k3⟩
 have h3:lF B b gy S (pz S q) w3 Js:=h3
 have H3:=Lib.hid h3
 have K3:=Lib.hid (K2.out.trans k3)
 clear h3 k3
 go_wp2_with fail
 go_end0
 exact⟨rfl,⟨_,H3.out⟩,K3.out⟩
theorem Ip{k:Int}{s:List UInt8}(h:aZ k s=true):s.length≤100:=by
 unfold aZ at h
 split at h
 ·simp at h;omega
 ·split at h
  ·simp at h;rw[h];simp
  ·split at h
   ·simpa using h
   ·cases h
theorem MO{p s:List UInt8}(h:nameB s=true):(bg p s).length≤p.length+49:=by
 have:=VZ h
 unfold bg
 split
 ·omega
 ·simp;omega
theorem VF.small{d:Nat}{p last:List UInt8}{r:List Node}(h:VF d p last r):∀n∈r,n.path.length≤p.length+49*d∧n.data.length≤100:=by
 induction h with
 |nil=>intro n hn;cases hn
 |leaf d p last s y r h1 h2 h3 h4 h5 h6 ih=>
  intro n hn
  rcases List.mem_cons.1 hn with rfl|hn
  ·have:=MO (p:=p) h2
   rw[h1]
   exact⟨by omega,Ip h5⟩
  ·exact ih n hn
 |dir d p last s y sub r h1 h2 h3 h4 h5 h6 h7 ih1 ih2=>
  intro n hn
  have hj:=MO (p:=p) h2
  rcases List.mem_cons.1 hn with rfl|hn
  ·rw[h1,h5]
   exact⟨by omega,Nat.zero_le _⟩
  ·rcases List.mem_append.1 hn with hn|hn
   ·have:=ih1 n hn
    exact⟨by omega,this.2⟩
   ·exact ih2 n hn
theorem nI{l:List Node}(h:bH l= -1):l.length≤30∧(∀n∈l,n.path.length≤245∧n.data.length≤100)∧(aJ l).length≤30000:=by
 obtain⟨x,r,rfl,hv,hl⟩:=LV h
 have h1:∀n∈x :: r,n.path.length≤245∧n.data.length≤100:=by
  intro n hn
  obtain⟨hp,⟨-,rfl,hd⟩|⟨-,hd,hf⟩⟩:=hv
  ·simp only[List.mem_singleton] at hn
   subst hn
   rw[hp]
   exact⟨Nat.zero_le _,Ip hd⟩
  ·rcases List.mem_cons.1 hn with rfl|hn
   ·rw[hp,hd]
    exact⟨Nat.zero_le _,Nat.zero_le _⟩
   ·have:=hf.small n hn
    simp at this
    omega
 refine⟨hl,h1,?_⟩
 have h2:=Aj (x :: r)
 have h3:∀l:List Node,(∀n∈l,n.path.length≤245∧n.data.length≤100)→(l.map fun x=>x.path.length+x.data.length).sum≤l.length*345:=by
  intro l
  induction l with
  |nil=>intro _;simp
  |cons x r ih=>
   intro hx
   have h3:=ih fun y hy=>hx y (List.mem_cons_of_mem _ hy)
   have h4:=hx x (List.mem_cons_self ..)
   simp only[List.map_cons,List.sum_cons,List.length_cons,Nat.succ_mul]
   omega
 have h4:=h3 _ h1
 generalize (List.map (fun x=>x.path.length+x.data.length) (x :: r)).sum=A at *
 generalize (x :: r).length=B at *
 generalize (aJ (x :: r)).length=C at *
 omega
theorem BO{l:List Node}(h:bH l= -1):jr l:=fun n hn=>by
 obtain⟨h1,h2⟩:=(nI h).2.1 n hn
 exact⟨Nat.le_trans h1 (by omega),Nat.le_trans h2 (by omega)⟩
def Stat{α:Type}(S:List UInt8)(q:RQ)(R r:RE α):Prop:=(q.e=0→R=r)∧(q.e≠0→R=.error (q.e,q.bad))
theorem tX{α:Type}{S:List UInt8}{q:RQ}{R:RE α}{may:List (List UInt8)}{k:List UInt8×RS→RE α}(h:Stat S q R ((bU may (q.rs S)).bind k))(hat:q.at'≤S.length):
 Stat S (aB S may q).2 R (k ((aB S may q).1,(aB S may q).2.rs S))∧((aB S may q).2.e=0→q.e=0∧(aB S may q).1∈may∧q.at'+8≤(aB S may q).2.at')∧((aB S may q).2.e≠0→(aB S may q).1=[]):=by
 by_cases he:q.e=0
 ·rcases wG (may:=may) he hat with⟨x,q',h1,h2,h3,h4,h5,h6⟩|⟨s,q',h1,h2,h3,h4,h5,h6,h7⟩
  ·rw[h3]
   have hne:q'.e≠0:=by rw[h4];exact h2
   refine⟨⟨fun e=>absurd e hne,fun _=>?_⟩,fun e=>absurd e hne,fun _=>rfl⟩
   rw[h.1 he,h1,h4,h5]
   rfl
  ·rw[h2]
   refine⟨⟨fun _=>?_,fun e=>absurd h3 e⟩,fun _=>⟨he,h6,?_⟩,fun e=>absurd h3 e⟩
   ·rw[h.1 he,h1]
    rfl
   ·have hl:=bn h1
    simp only[RQ.rs,List.length_drop] at hl ⊢
    omega
 ·rw[bC he]
  exact⟨⟨fun e=>absurd e he,fun _=>h.2 he⟩,fun e=>absurd e he,fun _=>rfl⟩
theorem AZ{α:Type}{S:List UInt8}{q:RQ}{R:RE α}{m:Nat}{k:List UInt8×RS→RE α}(h:Stat S q R ((fD m (q.rs S)).bind k))(hat:q.at'≤S.length):
 Stat S (aV S m q).2 R (k ((aV S m q).1,(aV S m q).2.rs S))∧((aV S m q).2.e=0→q.e=0∧q.at'+8≤(aV S m q).2.at'):=by
 by_cases he:q.e=0
 ·rcases EJ (m:=m) he hat with⟨x,h1,h2,h3⟩|⟨s,q',h1,h2,h3,h4,h5,h6⟩
  ·rw[h3]
   refine⟨⟨fun e=>absurd e h2,fun _=>?_⟩,fun e=>absurd e h2⟩
   rw[h.1 he,h1]
   rfl
  ·rw[h2]
   refine⟨⟨fun _=>?_,fun e=>absurd h3 e⟩,fun _=>⟨he,?_⟩⟩
   ·rw[h.1 he,h1]
    rfl
   ·have hl:=jq h1
    simp only[RQ.rs,List.length_drop] at hl ⊢
    omega
 ·rw[oW he]
  exact⟨⟨fun e=>absurd e he,fun _=>h.2 he⟩,fun e=>absurd e he⟩
def RQ.aO(q:RQ)(e p:Int):RQ:=if e=0 then q else q.fail e p
theorem A8{α:Type}{S:List UInt8}{q:RQ}{R r:RE α}{e p:Int}(h:Stat S q R (if e≠0 then .error (e,p) else r)):Stat S (q.aO e p) R r:=by
 unfold RQ.aO
 by_cases he:e=0
 ·rw[if_pos he]
  rw[if_neg (by simp[he])] at h
  exact h
 ·rw[if_neg he]
  rw[if_pos he] at h
  by_cases hq:q.e=0
  ·rw[RQ.fail,if_pos hq]
   exact⟨fun e2=>absurd e2 he,fun _=>h.1 hq⟩
  ·rw[RQ.fU hq]
   exact⟨fun e2=>absurd e2 hq,h.2⟩
theorem SI{α:Type}{S:List UInt8}{q:RQ}{R:RE α}{k:RS→RE α}(h:Stat S q R ((bU [nT] (q.rs S).clear).bind fun z=>(jo 6 [] z.2).bind k))(hat:q.at'≤S.length):
 Stat S (pz S q) R (k ((pz S q).rs S))∧((pz S q).e=0→q.e=0∧bH (pz S q).l= -1):=by
 have h0:Stat S q.clear R ((bU [nT] (q.clear.rs S)).bind fun z=>(jo 6 [] z.2).bind k):=h
 obtain⟨h1,h2,-⟩:=tX h0 hat
 have hl:=(bQ S [nT] q.clear).1
 unfold pz
 by_cases he:(aB S [nT] q.clear).2.e=0
 ·have hq:=(h2 he).1
  have yC:(aB S [nT] q.clear).2.at'≤S.length:=by
   rcases wG (may:=[nT]) (S:=S) hq hat with⟨x,q',g1,g2,g3,g4,g5,g6⟩|⟨s,q',g1,g2,g3,g4,g5,g6,g7⟩
   ·rw[g3] at he
    exact absurd he (by rw[g4];exact g2)
   ·rw[g2];exact g5
  have hr:=EN S 6 [] (aB S [nT] q.clear).2 he yC
  have h3:=h1.1 he
  cases hn:jo 6 [] ((aB S [nT] q.clear).2.rs S) with
  |error x=>
   rw[hn] at hr h3
   obtain⟨g1,g2,g3⟩:=hr
   have hne:(dV S 6 [] (aB S [nT] q.clear).2).e≠0:=by rw[g1];exact g3
   refine⟨⟨fun e=>absurd e hne,fun _=>?_⟩,fun e=>absurd e hne⟩
   rw[h3,g1,g2]
   rfl
  |ok ρ=>
   rw[hn] at hr h3
   obtain⟨g1,g2,g3⟩:=hr
   refine⟨⟨fun _=>by rw[h3,g2];rfl,fun e=>absurd g1 e⟩,fun _=>⟨hq,?_⟩⟩
   have hn0:((aB S [nT] q.clear).2.rs S).nodes=[]:=by
    show(aB S [nT] q.clear).2.l=[]
    rw[hl]
    rfl
   obtain⟨d,nd,r,hd,hv,r3,n3,l3⟩:=yH 6 _ _ _ hn (by rw[hn0];simp)
   obtain rfl:d=5:=by omega
   rw[hn0,List.nil_append] at n3
   have e4:(dV S 6 [] (aB S [nT] q.clear).2).l=nd :: r:=by
    rw[←n3,←g2]
    rfl
   rw[e4]
   exact BL hv (by rw[←n3];exact l3)
 ·rw[oZ he]
  exact⟨⟨fun e=>absurd e he,h1.2⟩,fun e=>absurd e he⟩
theorem o7(q:RQ)(e p:Int):(q.aO e p).l=q.l∧(q.aO e p).at'=q.at'∧((q.aO e p).e=0→q.e=0∧e=0):=by
 unfold RQ.aO
 split
 ·rename_i h;exact⟨rfl,rfl,fun h2=>⟨h2,h⟩⟩
 ·rename_i h
  unfold RQ.fail
  split
  ·exact⟨rfl,rfl,fun h2=>absurd h2 h⟩
  ·rename_i h3;exact⟨rfl,rfl,fun h2=>absurd h2 h3⟩
def pU(L:aH)(K:List (List UInt8)):aH:=K.filterMap (aA L)
theorem MP{L:aH}{K:List (List UInt8)}{p:List UInt8}{e:dI}(h:aA L p=some e):pU L (p :: K)=e :: pU L K:=by simp[pU,h]
theorem MQ{L:aH}{K:List (List UInt8)}{k:Nat}{p:List UInt8}{e:dI}(hk:K[k]? =some p)(h:aA L p=some e):pU L (K.drop k)=e :: pU L (K.drop (k+1)):=by
 obtain⟨hlt,hg⟩:=List.getElem?_eq_some_iff.1 hk
 rw[List.drop_eq_getElem_cons hlt,hg,MP h]
def kU(L:aH)(K:List (List UInt8))(k:Nat):List UInt8:=(pU L (K.drop k)).flatMap lD++bM iY
theorem EX{L:aH}{K:List (List UInt8)}{k:Nat}{p:List UInt8}{e:dI}(hk:K[k]? =some p)(h:aA L p=some e):kU L K k=lD e++kU L K (k+1):=by
 unfold kU
 rw[MQ hk h]
 simp
theorem Iq{L:aH}{K:List (List UInt8)}:kU L K K.length=bM iY:=by
 unfold kU
 rw[List.drop_length]
 rfl
theorem EY(L:aH)(K:List (List UInt8)):Gq (pU L K)=bM dK++kU L K 0:=rfl
def kR(e:dI)(j:Nat):List UInt8:=tH (e.refs.drop j)++(bM jf++bM (sumOf (aJ e.tree)).data.toList)
theorem BP{e:dI}{j:Nat}{r:List UInt8}(h:e.refs[j]? =some r):kR e j=aC [iO,r]++kR e (j+1):=by
 obtain⟨hlt,hg⟩:=List.getElem?_eq_some_iff.1 h
 unfold kR
 rw[List.drop_eq_getElem_cons hlt,hg]
 simp[tH,aC]
theorem EZ{e:dI}:kR e e.refs.length=aC [jf,(sumOf (aJ e.tree)).data.toList]:=by
 unfold kR
 rw[List.drop_length]
 simp[tH,aC]
theorem Ir(e:dI):lD e=(aC [cO,e.path]++aJ e.tree++aC [fQ])++kR e 0:=by
 simp[lD,kR,aC]
theorem qp(s:List UInt8):(bM s).length≤s.length+15:=by
 rw[gZ]
 have:=lK s.length
 omega
theorem bK.C9{L:aH}(h:bK L){p:List UInt8}(hp:(aA L p).isSome=true):p.length≤12:=by
 obtain⟨e,he,rfl⟩:=dH.1 hp
 have h1:=(h.good e he).1
 unfold fF at h1
 simp only[Bool.and_eq_true,decide_eq_true_eq] at h1
 exact h1.2
theorem bK.Jt{L:aH}(h:bK L){e:dI}(he:e∈L):e.refs.length≤10∧∀r∈e.refs,r.length≤12:=by
 refine⟨?_,fun r hr=>h.C9 (h.has e he r hr)⟩
 have h1:=qy e.refs (L.map dI.path) (h.nodup he) fun r hr=>by
  obtain⟨o,ho,rfl⟩:=dH.1 (h.has e he r hr)
  exact List.mem_map_of_mem ho
 have h2:=h.ten
 rw[List.length_map] at h1
 omega
theorem Iu:∀l:List (List UInt8),(∀r∈l,r.length≤12)→(tH l).length≤45*l.length
 | [],_=>by simp[tH]
 |r :: l,h=>by
  have h1:=Iu l fun x hx=>h x (List.mem_cons_of_mem _ hx)
  have h2:=h r (List.mem_cons_self ..)
  have h3:=qp iO
  have h4:=qp r
  have e:tH (r :: l)=bM iO++bM r++tH l:=by simp[tH]
  rw[e,List.length_append,List.length_append,List.length_cons]
  have h5:iO.length=3:=rfl
  omega
theorem Ba(l:List UInt8):(sumOf l).data.toList.length=8:=by simp[sumOf,Gh,Ou]
theorem Pe{e:dI}(h1:e.path.length≤12)(h2:bH e.tree= -1)(h3:e.refs.length≤10)(h4:∀r∈e.refs,r.length≤12):(lD e).length≤31000:=by
 have a1:=qp cO
 have a2:=qp e.path
 have a3:=(nI h2).2.2
 have a4:=qp fQ
 have a5:=Iu e.refs h4
 have a6:=qp jf
 have a7:=qp (sumOf (aJ e.tree)).data.toList
 rw[Ba] at a7
 have b1:cO.length=4:=rfl
 have b2:fQ.length=4:=rfl
 have b3:jf.length=3:=rfl
 unfold lD
 simp only[List.length_append]
 omega
theorem MR:∀es:aH,(∀e∈es,(lD e).length≤31000)→(es.flatMap lD).length≤31000*es.length
 | [],_=>by simp
 |e :: r,h=>by
  have h1:=MR r fun x hx=>h x (List.mem_cons_of_mem _ hx)
  have h2:=h e (List.mem_cons_self ..)
  rw[List.flatMap_cons,List.length_append,List.length_cons]
  omega
theorem Pg{L:aH}{K:List (List UInt8)}{e:dI}(h:e∈pU L K):e∈L∧e.path∈K:=by
 obtain⟨p,hp,he⟩:=List.mem_filterMap.1 h
 obtain⟨h1,rfl⟩:=jV he
 exact⟨h1,hp⟩
theorem Ph(L:aH)(K:List (List UInt8)):(pU L K).length≤K.length:=List.length_filterMap_le _ _
theorem bK.abf{L:aH}(h:bK L){e:dI}(he:e∈L):(lD e).length≤31000:=by
 obtain⟨h3,h4⟩:=h.Jt he
 exact Pe (h.C9 (dH.2 ⟨e,he,rfl⟩)) (h.good e he).2.1 h3 h4
theorem WB{es:aH}(h:∀e∈es,(lD e).length≤31000)(h10:es.length≤10):(Gq es).length≤320000:=by
 have h1:=MR es h
 have a1:=qp dK
 have a2:=qp iY
 have b1:dK.length=8:=rfl
 have b2:iY.length=3:=rfl
 unfold Gq
 simp only[List.length_append]
 omega
theorem Ju{L:aH}{K:List (List UInt8)}(h:bK L)(hK:K.length≤10):(Gq (pU L K)).length≤320000:=
 WB (fun e he=>h.abf (Pg he).1) (Nat.le_trans (Ph L K) hK)
abbrev ahQ:List TypeId:=[93,5]
structure sG(W:World)(bb:Nat)(T rest:List UInt8)(w:World):Prop where
 bu:∃out,BuilderAt w W.heap.size bb out∧out++rest=T
 ft:T.length≤70368744177664
 kp:Kp W.heap.size ahQ W w
section
variable {W w w':World} {bb:Nat} {T rest:List UInt8}
theorem sG.new(W:World)(T:List UInt8)(h:T.length≤70368744177664):sG W W.heap.size T T (W.alloc (.cells #[.pointer none,.slice none 0 0] 93)):=
 ⟨⟨[],BuilderAt.new W,rfl⟩,h,(Kp.refl _ _ _).alloc _⟩
theorem sG.non(h:sG W bb T rest w):Keeps Non W w:=h.kp.keeps (Nat.le_refl _)
theorem sG.keeps(h:sG W bb T rest w)(hk:Keeps Non w w'):sG W bb T rest w':=by
 have k:Kp W.heap.size [] w w':=Kp.aI hk
 obtain⟨out,hb,ho⟩:=h.bu
 exact⟨⟨out,hb.kp k (.inr (by simp)),ho⟩,h.ft,h.kp.trans (Kp.aI hk)⟩
theorem sG.alloc(h:sG W bb T rest w)(o:Obj):sG W bb T rest (w.alloc o):=h.keeps ((Keeps.refl _ _).alloc o)
theorem sG.drew(h:sG W bb T rest w):sG W bb T rest w.drew:=h.keeps (Keeps.refl _ _).drew
theorem sG.drewN(h:sG W bb T rest w)(n:Nat):sG W bb T rest (w.drewN n):=h.keeps ((Keeps.refl _ _).drewN n)
theorem Jv(h:sG W bb T rest w)(l:List (List UInt8))(n sz:Nat)(c:Array Value)(hsz:sz=w.heap.size)(hc:c=(bf l).toArray)(hn:l.length=n)(h0:0<n)(h9:n≤100)(hr:roomOf l≤70368744177664):
 Calls Tryz.prog 41 #[.slice (some ⟨sz,0,none⟩) n n] (w.alloc (.cells c 9)) fun e w'=>e=.returned (.string ⟨(aC l).toArray⟩)∧sG W bb T rest w':=by
 subst hsz
 refine(put_any _ l _ (aP w n _ l c rfl hc hn (by omega)) (by omega) hr).mono ?_
 rintro e w1 ⟨rfl,hk⟩
 exact⟨rfl,(h.alloc _).keeps hk⟩
theorem wI(x:List UInt8)(h:sG W bb T (x++rest) w):
 Calls Tryz.prog 40 #[.pointer (some ⟨bb,0,none⟩),.string ⟨x.toArray⟩] w fun e w'=>e=.returned (.tuple #[.int .i64 x.length,.nilIface])∧sG W bb T rest w':=by
 obtain⟨⟨out,hb,ho⟩,hf,hk⟩:=h
 have hl:out.length+(x.length+rest.length)=T.length:=by rw[←ho];simp
 refine(kD W.heap.size bb out ⟨x.toArray⟩ w hb (by show _+x.toArray.size≤_;simp;omega)).mono ?_
 rintro e w1 ⟨rfl,hb1,hk1⟩
 exact⟨rfl,⟨_,hb1,by rw[←ho,List.append_assoc]⟩,hf,hk.trans hk1⟩
theorem SK(h:sG W bb T [] w)(hT:T≠[]):
 Calls Tryz.prog 43 #[.pointer (some ⟨bb,0,none⟩)] w fun e w'=>e=.returned (.string ⟨T.toArray⟩)∧Keeps Non W w':=by
 obtain⟨⟨out,hb,ho⟩,hf,hk⟩:=h
 rw[List.append_nil] at ho
 subst ho
 refine(vI _ _ _ _ hb hT).mono ?_
 rintro e w1 ⟨rfl,hk1⟩
 have hb0:=hk.below (Nat.le_refl _)
 refine⟨rfl,?_⟩
 refine Keeps.of_below (B:=W.heap.size) ⟨hk1.os.trans hb0.os,hk1.tape.trans hb0.tape,hk1.output.trans hb0.output,Nat.le_trans hb0.size hk1.size,fun k hk=>(hk1.block k hk).trans (hb0.block k hk)⟩ fun k hk _=>hk
end
end Go.Proofs.YtdkogijdfgfpeaaGreatDoor

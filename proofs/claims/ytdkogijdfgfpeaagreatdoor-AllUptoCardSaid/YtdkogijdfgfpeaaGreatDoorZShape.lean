/- Plain: a tree's shape; what is right is of that shape, and back; what is read is of that shape, to the byte, and back. -/
import Derived.Test.YtdkogijdfgfpeaaGreatDoorZRead
set_option linter.unusedVariables false
namespace Go.Proofs.YtdkogijdfgfpeaaGreatDoor
open Go Go.RowKit
theorem Ia:∀(m:Nat) (r:List UInt8) (c c':Nat),dS m r c=some c'→(47:UInt8)∉r.take m
 |0,r,c,c',h=>by simp
 |m+1,[],c,c',h=>by simp
 |m+1,b :: r,c,c',h=>by
  unfold dS at h
  by_cases hb:b.toNat<128∨191<b.toNat
  ·rw[if_pos hb] at h;cases h
  ·rw[if_neg hb] at h
   have:=Ia m r _ _ h
   rw[List.take_succ_cons,List.mem_cons,not_or]
   refine⟨?_,this⟩
   intro e
   rw[←e] at hb
   exact hb (.inl (by decide))
theorem LP{l:List UInt8}{k:Nat}(h:letter l=some k):(47:UInt8)∉l.take k:=by
 cases l with
 |nil=>simp
 |cons b r=>
  cases hl:jg b.toNat with
  |none=>rw[qJ hl] at h;cases h
  |some mc=>
   obtain⟨m,c⟩:=mc
   cases hc:dS m r c with
   |none=>rw[jK hl hc] at h;cases h
   |some c'=>
    rw[iq hl hc] at h
    split at h
    ·cases h
    ·obtain rfl:=Option.some.inj h
     rw[Nat.add_comm,List.take_succ_cons,List.mem_cons,not_or]
     refine⟨?_,Ia m r c c' hc⟩
     intro e
     rw[←e] at hl
     simp[jg] at hl
theorem zA:∀(f:Nat) (l:List UInt8) (n:Nat),l.length≤f→(47:UInt8)∈l→lettersOf l n=none
 |0,l,n,hf,h=>by
  obtain rfl:l=[]:=List.eq_nil_of_length_eq_zero (by omega)
  simp at h
 |f+1,l,n,hf,h=>by
  have hne:l≠[]:=by rintro rfl;simp at h
  rw[nK l n hne]
  cases hl:letter l with
  |none=>rfl
  |some k=>
   have hk:=uf hl
   refine zA f _ _ (by rw[List.length_drop];omega) ?_
   rw[←List.take_append_drop k l,List.mem_append] at h
   exact h.resolve_left (LP hl)
theorem xC{n:List UInt8}(h:nameB n=true):(47:UInt8)∉n:=by
 intro hm
 rw[←ug,je,zA n.length n 0 (Nat.le_refl _) hm] at h
 cases h
theorem Sr{l:List UInt8}{k:Nat}(h:letter l=some k):k≤4:=by
 cases l with
 |nil=>cases h
 |cons b r=>
  cases hl:jg b.toNat with
  |none=>rw[qJ hl] at h;cases h
  |some mc=>
   obtain⟨m,c⟩:=mc
   have hm:m≤3:=by
    unfold jg at hl
    split at hl
    ·cases hl
    ·split at hl
     ·cases hl;omega
     ·split at hl
      ·cases hl;omega
      ·split at hl
       ·cases hl;omega
       ·split at hl
        ·cases hl;omega
        ·cases hl
   cases hc:dS m r c with
   |none=>rw[jK hl hc] at h;cases h
   |some c'=>
    rw[iq hl hc] at h
    split at h
    ·cases h
    ·obtain rfl:=Option.some.inj h
     omega
theorem BK:∀(f:Nat) (l:List UInt8) (n m:Nat),l.length≤f→lettersOf l n=some m→l.length+4*n≤4*m
 |0,l,n,m,hf,h=>by
  obtain rfl:l=[]:=List.eq_nil_of_length_eq_zero (by omega)
  have:some n=some m:=h
  cases this
  simp
 |f+1,l,n,m,hf,h=>by
  by_cases hne:l=[]
  ·subst hne
   have:some n=some m:=h
   cases this
   simp
  ·rw[nK l n hne] at h
   cases hl:letter l with
   |none=>rw[hl] at h;cases h
   |some k=>
    rw[hl] at h
    have hk:=uf hl
    have hk4:=Sr hl
    have hpos:=List.length_pos_iff.2 hne
    have:=BK f (l.drop k) (n+1) m (by rw[List.length_drop];omega) h
    rw[List.length_drop] at this
    omega
theorem VZ{n:List UInt8}(h:nameB n=true):n.length≤48:=by
 rw[←ug,je] at h
 cases hl:lettersOf n 0 with
 |none=>rw[hl] at h;cases h
 |some m=>
  rw[hl] at h
  simp only[Bool.and_eq_true,decide_eq_true_eq] at h
  have:=BK n.length n 0 m (Nat.le_refl _) hl
  omega
theorem Sv(l:List UInt8)(h:l.length=8):yL (cu l)=l:=by
 obtain⟨a,b,c,d,e,f,g,i,rfl⟩:∃a b c d e f g i,l=[a,b,c,d,e,f,g,i]:=by
  match l,h with
  | [a,b,c,d,e,f,g,i],_=>exact⟨a,b,c,d,e,f,g,i,rfl⟩
 have ha:=UInt8.toNat_lt a
 have hb:=UInt8.toNat_lt b
 have hc:=UInt8.toNat_lt c
 have hd:=UInt8.toNat_lt d
 have he:=UInt8.toNat_lt e
 have hf:=UInt8.toNat_lt f
 have hg:=UInt8.toNat_lt g
 have hi:=UInt8.toNat_lt i
 simp only[yL,List.range,List.range.loop,List.map,leB,cu,List.cons.injEq,and_true]
 refine⟨?_,?_,?_,?_,?_,?_,?_,?_⟩ <;> (apply UInt8.toNat_inj.1;rw[UInt8.toNat_ofNat'];omega)
theorem V3{l:List UInt8}(h:¬l.any (· != 0)=true):l=List.replicate l.length 0:=by
 rw[List.eq_replicate_iff]
 refine⟨rfl,fun x hx=>?_⟩
 rw[List.any_eq_true] at h
 exact Classical.byContradiction fun e=>h ⟨x,hx,by simpa using e⟩
theorem nH{m:Nat}{ρ:RS}{x:List UInt8×RS}(h:fD m ρ=.ok x):ρ.rest=bM x.1++x.2.rest∧x.1.length≤m∧x.2.nodes=ρ.nodes∧x.2.at'=ρ.at'+(bM x.1).length:=by
 unfold fD at h
 split at h
 ·cases h
 ·split at h
  ·cases h
  ·split at h
   ·cases h
   ·split at h
    ·cases h
    ·rename_i h1 h2 h3 h4
     cases h
     simp only
     have h8:(ρ.rest.take 8).length=8:=by rw[List.length_take];omega
     generalize hn:cu (ρ.rest.take 8)=n at *
     have hle:yL n=ρ.rest.take 8:=by rw[←hn];exact Sv _ h8
     have hsl:((ρ.rest.drop 8).take n).length=n:=by rw[List.length_take,List.length_drop];omega
     have hz:=V3 h4
     rw[List.length_take,List.length_drop,Nat.min_eq_left (by omega)] at hz
     have hput:bM ((ρ.rest.drop 8).take n)=ρ.rest.take (8+n+dN n):=by
      unfold bM
      rw[hsl,hle,←hz]
      have e1:ρ.rest.take 8++(ρ.rest.drop 8).take n=ρ.rest.take (8+n):=(List.take_add).symm
      rw[e1]
      exact(List.take_add).symm
     refine⟨?_,by rw[hsl];omega,rfl,?_⟩
     ·rw[hput]
      exact(List.take_append_drop _ _).symm
     ·rw[hput]
      show ρ.at'+_=_
      rw[List.length_take,Nat.min_eq_left (by omega)]
theorem dO{may:List (List UInt8)}{ρ:RS}{x:List UInt8×RS}(h:bU may ρ=.ok x):ρ.rest=bM x.1++x.2.rest∧x.1∈may∧x.2.nodes=ρ.nodes∧x.2.at'=ρ.at'+(bM x.1).length:=by
 obtain⟨h1,h2⟩:=Ei h
 obtain⟨q1,q2,q3,q4⟩:=nH h1
 exact⟨q1,h2,q3,q4⟩
inductive VF:Nat→List UInt8→List UInt8→List Node→Prop where
 |nil (d:Nat) (p last:List UInt8):VF d p last []
 |leaf (d:Nat) (p last s:List UInt8) (y:Node) (r:List Node):y.path=bg p s→nameB s=true→pY s last=false→y.kind≠4→aZ y.kind y.data=true→VF (d+1) p s r→VF (d+1) p last (y :: r)
 |dir (d:Nat) (p last s:List UInt8) (y:Node) (sub r:List Node):y.path=bg p s→nameB s=true→pY s last=false→y.kind=4→y.data=[]→VF d (bg p s) [] sub→VF (d+1) p s r→VF (d+1) p last (y :: (sub++r))
def VN(d:Nat)(path:List UInt8)(x:Node)(r:List Node):Prop:=
 x.path=path∧((x.kind≠4∧r=[]∧aZ x.kind x.data=true)∨(x.kind=4∧x.data=[]∧VF d path [] r))
theorem VF.under{d:Nat}{p last:List UInt8}{r:List Node}(h:VF d p last r):∀z∈r,aQ z.path p=true:=by
 induction h with
 |nil=>intro z hz;cases hz
 |leaf d p last s y r h1 h2 h3 h4 h5 h6 ih=>
  intro z hz
  rcases List.mem_cons.1 hz with rfl|hz
  ·rw[h1];exact eX _ _ (jk h2)
  ·exact ih z hz
 |dir d p last s y sub r h1 h2 h3 h4 h5 h6 h7 ih1 ih2=>
  intro z hz
  rcases List.mem_cons.1 hz with rfl|hz
  ·rw[h1];exact eX _ _ (jk h2)
  ·rcases List.mem_append.1 hz with hz|hz
   ·exact jL (ih1 z hz) (eX _ _ (jk h2))
   ·exact ih2 z hz
theorem VF.head{d:Nat}{p s:List UInt8}{z:Node}{r:List Node}(h:VF d p s (z :: r))(hs:nameB s=true):aQ z.path (bg p s)=false:=by
 have key:∀t:List UInt8,nameB t=true→pY t s=false→aQ (bg p t) (bg p s)=false:=by
  intro t ht hl
  rw[Bool.eq_false_iff]
  intro hb
  rw[yA p t _ (jk ht) (xC ht) (yV p s (jk hs))] at hb
  have hbs:=dX (eX p s (jk hs))
  rcases hb with e|e
  ·rw[e] at hbs;omega
  ·have:=dX e;omega
 cases h with
 |leaf d _ _ t _ _ h1 h2 h3 _ _ _=>rw[h1];exact key t h2 h3
 |dir d _ _ t _ _ _ h1 h2 h3 _ _ _ _=>rw[h1];exact key t h2 h3
theorem Ep{p:Node→Bool}:∀(a b:List Node),(∀z∈a,p z=true)→(∀z r,b=z :: r→p z=false)→(a++b).takeWhile p=a∧(a++b).dropWhile p=b
 | [],b,_,hb=>by
   cases b with
   |nil=>exact⟨rfl,rfl⟩
   |cons z r=>
    have:=hb z r rfl
    exact⟨List.takeWhile_cons_of_neg (by simp[this]),List.dropWhile_cons_of_neg (by simp[this])⟩
 |x :: a,b,ha,hb=>by
  have h:=Ep a b (fun z hz=>ha z (List.mem_cons_of_mem _ hz)) hb
  have hx:=ha x (List.mem_cons_self ..)
  rw[List.cons_append,List.takeWhile_cons_of_pos hx,List.dropWhile_cons_of_pos hx,h.1,h.2]
  exact⟨rfl,rfl⟩
theorem LQ{d:Nat}{p s:List UInt8}{y:Node}{r:List Node}(h1:y.path=bg p s)(h2:nameB s=true)(h:VF d p s r):bJ (y :: r)=kX y++(jA y (bJ [])++(bM [41]++bJ r)):=by
 rw[rF]
 have:=Ep (p:=fun z:Node=>aQ z.path y.path) [] r (by simp) (fun z t e=>by subst e;show aQ z.path y.path=false;rw[h1];exact h.head h2)
 rw[List.nil_append] at this
 rw[this.1,this.2]
theorem OZ{d d':Nat}{p s:List UInt8}{y:Node}{sub r:List Node}(h1:y.path=bg p s)(h2:nameB s=true)(hs:VF d' (bg p s) [] sub)(h:VF d p s r):bJ (y :: (sub++r))=kX y++(jA y (bJ sub)++(bM [41]++bJ r)):=by
 rw[rF]
 have:=Ep (p:=fun z:Node=>aQ z.path y.path) sub r (fun z hz=>by show aQ z.path y.path=true;rw[h1];exact hs.under z hz) (fun z t e=>by subst e;show aQ z.path y.path=false;rw[h1];exact h.head h2)
 rw[this.1,this.2]
theorem O1{p s:List UInt8}{y:Node}(h1:y.path=bg p s)(h2:nameB s=true):kX y=bM gX++(bM gI++(bM jQ++(bM s++bM nS))):=by
 unfold kX
 rw[h1,qK p s (xC h2)]
 simp[aC]
theorem uI(x:Node)(kids:List UInt8):jA x kids=bM gI++(bM nD++((if x.kind=1∨x.kind=2∨x.kind=3 then vK x.kind x.data else bM jm++kids)++bM aX)):=by
 unfold jA
 simp[aC]
def ZO(d:Nat):Prop:=∀(path:List UInt8) (ρ ρ':RS),jo d path ρ=.ok ρ'→ρ.nodes.length≤30→
 ∃(e:Nat) (x:Node) (r:List Node),d=e+1∧VN e path x r∧ρ.rest=jA x (bJ r)++ρ'.rest∧ρ'.nodes=ρ.nodes++x :: r∧ρ'.nodes.length≤30
theorem Es{d:Nat}(hN:ZO d)(p:List UInt8):∀(f:Nat) (last:List UInt8) (ρ ρ':RS),pX (jo d) p f last ρ=.ok ρ'→ρ.rest.length<f→ρ.nodes.length≤30→
 ∃r,VF d p last r∧ρ.rest=bJ r++(bM aX++ρ'.rest)∧ρ'.nodes=ρ.nodes++r∧ρ'.nodes.length≤30
 |0,_,_,_,_,h,_=>absurd h (by omega)
 |f+1,last,ρ,ρ',h,hf,hl=>by
  unfold pX at h
  obtain⟨x,h1,h⟩:=bind_ok h
  obtain⟨r1,m1,n1,-⟩:=dO h1
  have l1:=bn h1
  by_cases hs:x.1=aX
  ·rw[if_pos hs] at h
   cases h
   refine⟨[],.nil _ _ _,?_,by rw[n1,List.append_nil],by rw[n1];exact hl⟩
   rw[r1,hs];rfl
  ·rw[if_neg hs] at h
   have he:x.1=gX:=by
    simp only[List.mem_cons,List.not_mem_nil,or_false] at m1
    exact m1.resolve_right hs
   obtain⟨a,h2,h⟩:=bind_ok h
   obtain⟨r2,m2,n2,-⟩:=dO h2
   have l2:=bn h2
   obtain⟨y,h3,h⟩:=bind_ok h
   obtain⟨r3,m3,n3,-⟩:=dO h3
   have l3:=bn h3
   obtain⟨c,h4,h⟩:=bind_ok h
   obtain⟨r4,-,n4,-⟩:=nH h4
   have l4:=jq h4
   by_cases hnm:nameB c.1=false
   ·rw[if_pos hnm] at h;cases h
   rw[if_neg hnm] at h
   by_cases hle:pY c.1 last=true
   ·rw[if_pos hle] at h;cases h
   rw[if_neg hle] at h
   obtain⟨z,h5,h⟩:=bind_ok h
   obtain⟨r5,m5,n5,-⟩:=dO h5
   have l5:=bn h5
   obtain⟨ρ2,h6,h⟩:=bind_ok h
   have hzl:z.2.nodes.length≤30:=by rw[n5,n4,n3,n2,n1];exact hl
   obtain⟨e,nd,sub,rfl,⟨v1,v2⟩,r6,n6,ahC⟩:=hN _ _ _ h6 hzl
   have l6:=tC _ _ _ _ h6
   obtain⟨z2,h7,h⟩:=bind_ok h
   obtain⟨r7,m7,n7,-⟩:=dO h7
   have l7:=bn h7
   obtain⟨r,hv,r8,n8,len8⟩:=Es hN p f c.1 z2.2 ρ' h (by omega) (by rw[n7];exact ahC)
   have Gp:nameB c.1=true:=by simpa using hnm
   have hle2:pY c.1 last=false:=by simpa using hle
   have hm:∀{t u:List UInt8},t∈[u]→t=u:=fun h=>by simpa using h
   have htext:∀T:List UInt8,kX nd++(jA nd (bJ sub)++(bM [41]++bJ r))++(bM aX++ρ'.rest)=ρ.rest:=by
    intro _
    rw[r1,he,r2,hm m2,r3,hm m3,r4,r5,hm m5,r6,r7,hm m7,r8,O1 v1 Gp]
    simp only[List.append_assoc]
   rcases v2 with⟨k4,rfl,hd⟩|⟨k4,kd,hvs⟩
   ·refine⟨nd :: r,.leaf e p last c.1 nd r v1 Gp hle2 k4 hd hv,?_,?_,len8⟩
    ·rw[LQ v1 Gp hv,htext []]
    ·rw[n8,n7,n6,n5,n4,n3,n2,n1];simp
   ·refine⟨nd :: (sub++r),.dir e p last c.1 nd sub r v1 Gp hle2 k4 kd hvs hv,?_,?_,len8⟩
    ·rw[OZ v1 Gp hvs hv,htext []]
    ·rw[n8,n7,n6,n5,n4,n3,n2,n1];simp
theorem yH:∀d:Nat,ZO d
 |0=>by
  intro path ρ ρ' h _
  unfold jo at h
  obtain⟨x,h1,h⟩:=bind_ok h
  cases h
 |d+1=>by
  intro path ρ ρ' h hl
  have hm:∀{t u:List UInt8},t∈[u]→t=u:=fun h=>by simpa using h
  unfold jo at h
  obtain⟨x,h1,h⟩:=bind_ok h
  obtain⟨r1,m1,n1,-⟩:=dO h1
  by_cases h30:x.2.nodes.length=30
  ·rw[if_pos h30] at h;cases h
  rw[if_neg h30] at h
  obtain⟨y,h2,h⟩:=bind_ok h
  obtain⟨r2,m2,n2,-⟩:=dO h2
  obtain⟨z,h3,h⟩:=bind_ok h
  obtain⟨r3,m3,n3,-⟩:=dO h3
  rw[n1] at h30
  have hlt:ρ.nodes.length<30:=by omega
  refine⟨d,?_⟩
  by_cases hF:z.1=fA
  ·rw[if_pos hF] at h
   unfold Ef at h
   obtain⟨a,h4,h⟩:=bind_ok h
   obtain⟨r4,m4,n4,-⟩:=dO h4
   by_cases hx:a.1=jP
   ·rw[if_pos hx] at h
    obtain⟨b1,h5,h⟩:=bind_ok h
    obtain⟨r5,m5,n5,-⟩:=dO h5
    obtain⟨b2,h6,h⟩:=bind_ok h
    obtain⟨r6,m6,n6,-⟩:=dO h6
    obtain⟨b3,h7,h⟩:=bind_ok h
    obtain⟨r7,YX,n7,-⟩:=nH h7
    obtain⟨b4,h8,h⟩:=bind_ok h
    obtain⟨r8,m8,n8,-⟩:=dO h8
    cases h
    simp only[RS.add] at r8 n8
    refine⟨⟨path,2,b3.1⟩,[],rfl,⟨rfl,.inl ⟨by simp,rfl,by simp[aZ];exact YX⟩⟩,?_,?_,?_⟩
    ·rw[r1,hm m1,r2,hm m2,r3,hF,r4,hx,r5,hm m5,r6,hm m6,r7,r8,hm m8,uI]
     simp[vK,aC]
    ·rw[n8,n7,n6,n5,n4,n3,n2,n1]
    ·rw[n8,n7,n6,n5,n4,n3,n2,n1];simp;omega
   ·rw[if_neg hx] at h
    have hda:a.1=gK:=by
     simp only[List.mem_cons,List.not_mem_nil,or_false] at m4
     exact m4.resolve_left hx
    obtain⟨b3,h7,h⟩:=bind_ok h
    obtain⟨r7,YX,n7,-⟩:=nH h7
    obtain⟨b4,h8,h⟩:=bind_ok h
    obtain⟨r8,m8,n8,-⟩:=dO h8
    cases h
    simp only[RS.add] at r8 n8
    refine⟨⟨path,1,b3.1⟩,[],rfl,⟨rfl,.inl ⟨by simp,rfl,by simp[aZ];exact YX⟩⟩,?_,?_,?_⟩
    ·rw[r1,hm m1,r2,hm m2,r3,hF,r4,hda,r7,r8,hm m8,uI]
     simp[vK,aC]
    ·rw[n8,n7,n4,n3,n2,n1]
    ·rw[n8,n7,n4,n3,n2,n1];simp;omega
  rw[if_neg hF] at h
  by_cases hL:z.1=fB
  ·rw[if_pos hL] at h
   unfold Eh at h
   obtain⟨a,h4,h⟩:=bind_ok h
   obtain⟨r4,m4,n4,-⟩:=dO h4
   obtain⟨b3,h7,h⟩:=bind_ok h
   obtain⟨r7,YX,n7,-⟩:=nH h7
   by_cases hd:aZ 3 b3.1=true
   ·rw[if_pos hd] at h
    obtain⟨b4,h8,h⟩:=bind_ok h
    obtain⟨r8,m8,n8,-⟩:=dO h8
    cases h
    simp only[RS.add] at r8 n8
    refine⟨⟨path,3,b3.1⟩,[],rfl,⟨rfl,.inl ⟨by simp,rfl,hd⟩⟩,?_,?_,?_⟩
    ·rw[r1,hm m1,r2,hm m2,r3,hL,r4,hm m4,r7,r8,hm m8,uI]
     simp[vK,aC]
    ·rw[n8,n7,n4,n3,n2,n1]
    ·rw[n8,n7,n4,n3,n2,n1];simp;omega
   ·rw[if_neg hd] at h;cases h
  rw[if_neg hL] at h
  have hD:z.1=jm:=by
   simp only[List.mem_cons,List.not_mem_nil,or_false] at m3
   rcases m3 with h|h|h
   ·exact absurd h hF
   ·exact absurd h hL
   ·exact h
  obtain⟨r,hv,r8,n8,len8⟩:=Es (yH d) path _ _ _ _ h (by simp only[RS.add];omega) (by simp only[RS.add,List.length_append,List.length_cons,List.length_nil,n3,n2,n1];omega)
  simp only[RS.add] at r8 n8
  refine⟨⟨path,4,[]⟩,r,rfl,⟨rfl,.inr ⟨rfl,rfl,hv⟩⟩,?_,?_,len8⟩
  ·rw[r1,hm m1,r2,hm m2,r3,hD,r8,uI]
   simp
  ·rw[n8,n3,n2,n1];simp
theorem Et{α:Type}{p:α→Bool}:∀(a b:List α),(∀z∈a,p z=true)→(∀z r,b=z :: r→p z=false)→(a++b).dropWhile p=b
 | [],b,_,hb=>by
   cases b with
   |nil=>rfl
   |cons z r=>exact List.dropWhile_cons_of_neg (by simp[hb z r rfl])
 |x :: a,b,ha,hb=>by
  rw[List.cons_append,List.dropWhile_cons_of_pos (ha x (List.mem_cons_self ..))]
  exact Et a b (fun z hz=>ha z (List.mem_cons_of_mem _ hz)) hb
theorem Eu(p l:List UInt8)(ab deep:Opens)(h:∀o∈deep,o.1≠p):mX p (ab++(p,l) :: deep)=ab++[(p,l)]:=by
 unfold mX
 rw[List.reverse_append,List.reverse_cons,List.append_assoc,Et deep.reverse _ (fun z hz=>by simpa using h z (List.mem_reverse.1 hz)) (fun z r e=>by cases e;simp)]
 simp
theorem O4(p:List UInt8)(st:Opens)(h:∀o∈st,o.1≠p):mX p st=[]:=by
 unfold mX
 have:=Et (p:=fun o:List UInt8×List UInt8=>o.1 !=p) st.reverse [] (fun z hz=>by simpa using h z (List.mem_reverse.1 hz)) (fun z r e=>by cases e)
 rw[List.append_nil] at this
 rw[this];rfl
theorem AQ{p s:List UInt8}(hp:p.head? ≠some 47)(hs:nameB s=true):(bg p s).head? ≠some 47:=by
 unfold bg
 split
 ·intro e
  have:=xC hs
  cases s with
  |nil=>cases e
  |cons x r=>simp at e;subst e;simp at this
 ·rename_i h
  cases p with
  |nil=>exact absurd rfl h
  |cons x r=>simpa using hp
theorem Ib{p l s:List UInt8}{ab deep:Opens}(hd:∀o∈deep,o.1≠p)(hp:p.head? ≠some 47)(hs:nameB s=true)(hl:pY s l=false):bV (bg p s) (ab++(p,l) :: deep)=(true,ab++[(p,s)]):=by
 unfold bV
 rw[qK p s (xC hs),Eu p l ab deep hd]
 simp only[List.getLast?_concat,hs,hl,Bool.not_true,Bool.false_or,Bool.or_false,List.dropLast_concat]
 rw[if_neg]
 simpa using AQ hp hs
theorem Ew{p q:List UInt8}(h:aQ p q=true):p≠q:=by
 intro e
 have:=dX h
 rw[e] at this
 omega
theorem LU{d:Nat}{p last:List UInt8}{r:List Node}(h:VF d p last r):∀(k:Nat) (ab deep:Opens),ab.length+1+d=6→0<k→k+r.length≤30→p.head? ≠some 47→(∀o∈deep,aQ o.1 p=true)→
 ∃(l':List UInt8) (deep':Opens),cZ r k (ab++(p,last) :: deep)=some (ab++(p,l') :: deep')∧∀o∈deep',aQ o.1 p=true:=by
 induction h with
 |nil d p last=>intro k ab deep _ _ _ _ hd;exact⟨last,deep,rfl,hd⟩
 |leaf d p last s y r h1 h2 h3 h4 h5 h6 ih=>
  intro k ab deep hab hk hkl hp hd
  simp only[List.length_cons] at hkl
  have hc:=Ib (ab:=ab) (fun o ho=>Ew (hd o ho)) hp h2 h3
  rw[←h1] at hc
  have hok:bP k y (ab++(p,last) :: deep)=some (ab++[(p,s)]):=by
   unfold bP
   rw[hc,if_neg (by rintro (e|e);omega;rw[h5] at e;cases e),if_neg (by omega),if_pos ⟨rfl,by simp;omega⟩]
  unfold cZ
  rw[hok]
  simp only
  rw[fM,if_neg h4]
  exact ih (k+1) ab [] hab (by omega) (by omega) hp (by simp)
 |dir d p last s y sub r h1 h2 h3 h4 h5 h6 h7 ih1 ih2=>
  intro k ab deep hab hk hkl hp hd
  simp only[List.length_cons,List.length_append] at hkl
  have hc:=Ib (ab:=ab) (fun o ho=>Ew (hd o ho)) hp h2 h3
  rw[←h1] at hc
  have hok:bP k y (ab++(p,last) :: deep)=some (ab++[(p,s)]):=by
   unfold bP
   rw[hc,if_neg (by rintro (e|e);omega;rw[h4,h5] at e;simp[aZ] at e),if_neg (by omega),if_pos ⟨rfl,by simp;omega⟩]
  unfold cZ
  rw[hok]
  simp only
  rw[fM,if_pos h4,nV,h1]
  obtain⟨l1,dp1,ha1,hd1⟩:=ih1 (k+1) (ab++[(p,s)]) [] (by simp;omega) (by omega) (by omega) (AQ hp h2) (by simp)
  rw[ha1]
  simp only[Option.bind_some]
  rw[List.append_assoc]
  obtain⟨l2,ZP,ha2,hd2⟩:=ih2 (k+1+sub.length) ab ((bg p s,l1) :: dp1) hab (by omega) (by omega) hp (by
   intro o ho
   rcases List.mem_cons.1 ho with rfl|ho
   ·exact eX p s (jk h2)
   ·exact jL (hd1 o ho) (eX p s (jk h2)))
  exact⟨l2,ZP,ha2,hd2⟩
theorem rU:∀(n:Nat) (r:List Node),r.length≤n→∀(d:Nat) (p last:List UInt8) (k:Nat) (ab deep st':Opens),ab.length+1+d=6→0<k→p.head? ≠some 47→(∀o∈deep,aQ o.1 p=true)→
 (∀z t,r=z :: t→(aK z.path).1=p∨∀o∈deep,(aK z.path).1≠o.1)→cZ r k (ab++(p,last) :: deep)=some st'→
 ∃(r1 r2:List Node) (l':List UInt8) (deep':Opens),r=r1++r2∧VF d p last r1∧(∀o∈deep',aQ o.1 p=true)∧cZ r2 (k+r1.length) (ab++(p,l') :: deep')=some st'∧(∀z t,r2=z :: t→(aK z.path).1≠p∧∀o∈deep',(aK z.path).1≠o.1)
 |_,[],_,d,p,last,k,ab,deep,st',_,_,_,hd,_,ha=>⟨[],[],last,deep,rfl,.nil _ _ _,hd,ha,fun z t e=>by cases e⟩
 |0,_ :: _,hn,_,_,_,_,_,_,_,_,_,_,_,_,_=>by simp at hn
 |n+1,z :: t,hn,d,p,last,k,ab,deep,st',hab,hk,hp,hd,hz,ha=>by
  simp only[List.length_cons] at hn
  by_cases YZ:(aK z.path).1=p
  ·unfold cZ at ha
   cases hok:bP k z (ab++(p,last) :: deep) with
   |none=>rw[hok] at ha;cases ha
   |some st2=>
    rw[hok] at ha
    simp only at ha
    unfold bP at hok
    by_cases h0:k=30∨aZ z.kind z.data=false
    ·rw[if_pos h0] at hok;cases hok
    rw[if_neg h0,if_neg (show ¬k=0 by omega)] at hok
    by_cases hc:(bV z.path (ab++(p,last) :: deep)).1=true∧(bV z.path (ab++(p,last) :: deep)).2.length≤5
    ·rw[if_pos hc] at hok
     obtain rfl:=Option.some.inj hok
     have hda:aZ z.kind z.data=true:=by simpa using fun e=>h0 (.inr e)
     have hcb:bV z.path (ab++(p,last) :: deep)=if !nameB (aK z.path).2||z.path.head? == some 47||pY (aK z.path).2 last then (false,ab++[(p,last)]) else (true,ab++[(p,(aK z.path).2)]):=by
      unfold bV
      rw[YZ,Eu p last ab deep (fun o ho=>Ew (hd o ho))]
      simp only[List.getLast?_concat,List.dropLast_concat]
     rw[hcb] at hc ha
     by_cases hcond:(!nameB (aK z.path).2||z.path.head? == some 47||pY (aK z.path).2 last)=true
     ·rw[if_pos hcond] at hc;cases hc.1
     rw[if_neg hcond] at hc ha
     simp only[Bool.or_eq_true,not_or,Bool.not_eq_true',beq_iff_eq] at hcond
     obtain⟨⟨c1,c2⟩,c3⟩:=hcond
     have hnm:nameB (aK z.path).2=true:=by simpa using c1
     have hle:pY (aK z.path).2 last=false:=by simpa using c3
     have hzp:z.path=bg p (aK z.path).2:=by
      have:=(qL z.path c2).1
      rwa [YZ] at this
     generalize hs:(aK z.path).2=s at *
     have hlen:=hc.2
     simp only[List.length_append,List.length_cons,List.length_nil] at hlen
     obtain⟨d',rfl⟩:∃d',d=d'+1:=⟨d-1,by omega⟩
     by_cases h4:z.kind=4
     ·have hdata:z.data=[]:=by
       rw[h4] at hda
       simpa [aZ] using hda
      rw[fM,if_pos h4,List.append_assoc,hzp] at ha
      obtain⟨sub,t2,l1,dp1,rfl,hv1,hd1,ha1,hh1⟩:=rU n t (by omega) d' (bg p s) [] (k+1) (ab++[(p,s)]) [] st' (by simp;omega) (by omega) (AQ hp hnm) (by simp) (by intro z' t' e;right;simp) (by rw[List.append_assoc];exact ha)
      rw[List.append_assoc] at ha1
      simp only[List.length_append] at hn
      obtain⟨r1,r2,l2,ZP,rfl,hv2,hd2,ha2,hh2⟩:=rU n t2 (by omega) (d'+1) p s (k+1+sub.length) ab ((bg p s,l1) :: dp1) st' hab (by omega) hp (by
       intro o ho
       rcases List.mem_cons.1 ho with rfl|ho
       ·exact eX p _ (jk hnm)
       ·exact jL (hd1 o ho) (eX p _ (jk hnm))) (by
       intro z' t' e
       right
       intro o ho
       obtain⟨q1,q2⟩:=hh1 z' t' e
       rcases List.mem_cons.1 ho with rfl|ho
       ·exact q1
       ·exact q2 o ho) ha1
      refine⟨z :: (sub++r1),r2,l2,ZP,by simp,.dir d' p last _ z sub r1 hzp hnm hle h4 hdata hv1 hv2,hd2,?_,hh2⟩
      rw[show k+(z :: (sub++r1)).length=k+1+sub.length+r1.length by simp;omega]
      exact ha2
     ·rw[fM,if_neg h4] at ha
      obtain⟨r1,r2,l2,ZP,rfl,hv2,hd2,ha2,hh2⟩:=rU n t (by omega) (d'+1) p s (k+1) ab [] st' hab (by omega) hp (by simp) (by intro z' t' e;right;simp) ha
      refine⟨z :: r1,r2,l2,ZP,by simp,.leaf d' p last _ z r1 hzp hnm hle h4 hda hv2,hd2,?_,hh2⟩
      rw[show k+(z :: r1).length=k+1+r1.length by simp;omega]
      exact ha2
    ·rw[if_neg hc] at hok;cases hok
  ·refine⟨[],z :: t,last,deep,rfl,.nil _ _ _,hd,ha,fun z' t' e=>?_⟩
   cases e
   exact⟨YZ,(hz z t rfl).resolve_left YZ⟩
theorem Ic:∀(r:List Node) (k:Nat) (st st':Opens),cZ r k st=some st'→k≤30→k+r.length≤30
 | [],k,_,_,_,h=>by simpa using h
 |n :: r,k,st,st',ha,h=>by
  unfold cZ at ha
  cases hok:bP k n st with
  |none=>rw[hok] at ha;cases ha
  |some s2=>
   rw[hok] at ha
   have hk:k≠30:=by
    rintro rfl
    unfold bP at hok
    rw[if_pos (.inl rfl)] at hok
    cases hok
   have:=Ic r (k+1) _ _ ha (by omega)
   simp only[List.length_cons]
   omega
theorem LV{l:List Node}(h:bH l= -1):∃x r,l=x :: r∧VN 5 [] x r∧l.length≤30:=by
 have hne:l≠[]:=by rintro rfl;simp[bH] at h
 have ha:=(qo hne).1 h
 obtain⟨st',ha⟩:=Option.isSome_iff_exists.1 ha
 have hlen:=Ic _ _ _ _ ha (by omega)
 obtain⟨x,r,rfl⟩:=List.exists_cons_of_ne_nil hne
 refine⟨x,r,rfl,?_,by omega⟩
 unfold cZ at ha
 cases hok:bP 0 x [] with
 |none=>rw[hok] at ha;cases ha
 |some st2=>
  rw[hok] at ha
  simp only at ha
  unfold bP at hok
  by_cases h0:0=30∨aZ x.kind x.data=false
  ·rw[if_pos h0] at hok;cases hok
  rw[if_neg h0,if_pos rfl] at hok
  have hda:aZ x.kind x.data=true:=by simpa using fun e=>h0 (.inr e)
  by_cases hp:x.path=[]∧([]:Opens).length≤5
  ·rw[if_pos hp] at hok
   obtain rfl:=Option.some.inj hok
   refine⟨hp.1,?_⟩
   by_cases h4:x.kind=4
   ·right
    have hdata:x.data=[]:=by rw[h4] at hda;simpa [aZ] using hda
    rw[fM,if_pos h4,hp.1] at ha
    obtain⟨r1,r2,l2,ZP,hr,hv,hd2,ha2,hh2⟩:=rU r.length r (Nat.le_refl _) 5 [] [] 1 [] [] st' rfl (by omega) (by simp) (by simp) (by intro z t e;right;simp) ha
    cases r2 with
    |nil=>
     rw[List.append_nil] at hr
     subst hr
     exact⟨h4,hdata,hv⟩
    |cons z t=>
     exfalso
     obtain⟨q1,q2⟩:=hh2 z t rfl
     unfold cZ at ha2
     have hcn:bV z.path ([]++(([]:List UInt8),l2) :: ZP)=(false,[]):=wP (O4 _ _ (by
      intro o ho
      rcases List.mem_cons.1 ho with rfl|ho
      ·exact fun e=>q1 e.symm
      ·exact fun e=>q2 o ho e.symm))
     have hno:bP (1+r1.length) z ([]++(([]:List UInt8),l2) :: ZP)=none:=by
      unfold bP
      split
      ·rfl
      ·rw[if_neg (by omega),hcn,if_neg (by rintro ⟨e,-⟩;cases e)]
     rw[hno] at ha2
     cases ha2
   ·left
    refine⟨h4,?_,hda⟩
    rw[fM,if_neg h4] at ha
    cases r with
    |nil=>rfl
    |cons z t=>
     exfalso
     unfold cZ at ha
     have hcn:bV z.path []=(false,[]):=wP rfl
     have hno:bP 1 z []=none:=by
      unfold bP
      split
      ·rfl
      ·rw[if_neg (by omega),hcn,if_neg (by rintro ⟨e,-⟩;cases e)]
     rw[hno] at ha
     cases ha
  ·rw[if_neg hp] at hok;cases hok
theorem BL{x:Node}{r:List Node}(h:VN 5 [] x r)(hl:(x :: r).length≤30):bH (x :: r)= -1:=by
 obtain⟨hp,h2⟩:=h
 rw[qo (by simp)]
 simp only[List.length_cons] at hl
 have hda:aZ x.kind x.data=true:=by
  rcases h2 with⟨_,_,h⟩|⟨h4,hd,_⟩
  ·exact h
  ·rw[h4,hd];simp[aZ]
 have hok:bP 0 x []=some []:=by
  unfold bP
  rw[if_neg (by rintro (e|e);omega;rw[hda] at e;cases e),if_pos rfl,if_pos ⟨hp,by simp⟩]
 unfold cZ
 rw[hok]
 simp only
 rcases h2 with⟨h4,rfl,_⟩|⟨h4,hd,hv⟩
 ·rfl
 ·rw[fM,if_pos h4,hp]
  obtain⟨l',dp,ha,-⟩:=LU hv 1 [] [] rfl (by omega) (by omega) (by simp) (by simp)
  rw[show([]:Opens)++[([],[])]=[]++(([]:List UInt8),([]:List UInt8)) :: [] from rfl,ha]
  rfl
def tH(l:List (List UInt8)):List UInt8:=l.flatMap fun r=>bM iO++bM r
def lD(e:dI):List UInt8:=bM cO++(bM e.path++(aJ e.tree++(bM fQ++(tH e.refs++(bM jf++bM (sumOf (aJ e.tree)).data.toList)))))
def Gq(es:aH):List UInt8:=bM dK++(es.flatMap lD++bM iY)
theorem wC:∀{l:List (List UInt8)} {s:List UInt8},dB l=true→iZ l s=true→dB (l++[s])=true
 | [],s,_,_=>rfl
 | [a],s,_,h2=>by
   show(Op.bytesLess a s&&dB [s])=true
   have h3:Op.bytesLess a s=true:=h2
   rw[h3];rfl
 |a :: b :: r,s,h1,h2=>by
  have h3:(Op.bytesLess a b&&dB (b :: r))=true:=h1
  rw[Bool.and_eq_true] at h3
  show(Op.bytesLess a b&&dB (b :: r++[s]))=true
  rw[Bool.and_eq_true]
  refine⟨h3.1,wC h3.2 ?_⟩
  simpa [iZ] using h2
theorem BM{x:CX}{s:List UInt8}(h:eY x s=0):iZ x.refs s=true∧(s=x.name∨(aA x.has s).isSome=true∨(aA x.came s).isSome=true):=by
 unfold eY at h
 split at h
 ·cases h
 ·rename_i h1
  refine⟨by simpa using h1,?_⟩
  split at h
  ·cases h
  ·rename_i h2
   by_cases e1:s=x.name
   ·exact .inl e1
   ·right
    cases h3:aA x.has s with
    |some _=>exact .inl rfl
    |none=>
     cases h4:aA x.came s with
     |some _=>exact .inr rfl
     |none=>exact absurd ⟨e1,h3,h4⟩ h2
theorem Ey:∀(f:Nat) (x:CX) (ρ:RS) (xr:CX×RS),nU f x ρ=.ok xr→ρ.rest.length<f→dB x.refs=true→
 ∃more,xr.1={x with refs:=x.refs++more}∧ρ.rest=tH more++(bM jf++xr.2.rest)∧xr.2.nodes=ρ.nodes∧dB (x.refs++more)=true∧∀r∈more,r.length≤12∧(r=x.name∨(aA x.has r).isSome=true∨(aA x.came r).isSome=true)
 |0,_,_,_,_,h,_=>absurd h (by omega)
 |f+1,x,ρ,xr,h,hf,hr=>by
  unfold nU at h
  obtain⟨y,h1,h⟩:=bind_ok h
  obtain⟨r1,m1,n1,-⟩:=dO h1
  have ly:=bn h1
  split at h
  ·rename_i hy
   obtain⟨z,h2,h⟩:=bind_ok h
   obtain⟨r2,l2,n2,-⟩:=nH h2
   have lz:=jq h2
   split at h
   ·cases h
   ·rename_i he
    have he0:eY x z.1=0:=by simpa using he
    obtain⟨e1,e2⟩:=BM he0
    obtain⟨more,g1,g2,g3,g4,g5⟩:=Ey f {x with refs:=x.refs++[z.1]} z.2 xr h (by omega) (wC hr e1)
    refine⟨z.1 :: more,by rw[g1];simp,?_,by rw[g3,n2,n1],by simpa using g4,fun r hr=>?_⟩
    ·rw[r1,hy,r2,g2]
     simp[tH]
    ·rcases List.mem_cons.1 hr with rfl|hr
     ·exact⟨l2,e2⟩
     ·exact g5 r hr
  ·rename_i hy
   cases h
   have hy2:y.1=jf:=by
    simp only[List.mem_cons,List.not_mem_nil,or_false] at m1
    exact m1.resolve_left hy
   refine⟨[],by simp,?_,n1,by simpa using hr,by simp⟩
   rw[r1,hy2]
   simp[tH]
structure Qz(x:CX)(e:dI):Prop where
 path:fF e.path=true
 new:aA x.came e.path=none
 wrong:bH e.tree= -1
 rise:dB e.refs=true
 known:∀r∈e.refs,r=e.path∨(aA x.has r).isSome=true∨(aA x.came r).isSome=true
 short:∀r∈e.refs,r.length≤12
 same:∀o,aA x.has e.path=some o→jM o e=true
 room:aA x.has e.path=none→x.has.length+jZ x≠10
theorem LW{L:aH}{e:dI}(h:aA L e.path=none):tu L e=L++[e]:=by
 unfold tu
 rw[List.filter_eq_self.2 fun o ho=>by
  have:=gB.1 h o ho
  simpa using this]
theorem uJ{x:CX}{s:List UInt8}(h:dG x s=0):fF s=true∧aA x.came s=none:=by
 unfold dG at h
 split at h
 ·cases h
 ·rename_i h1
  split at h
  ·cases h
  ·rename_i h2
   exact⟨by simpa using h1,by
    cases h3:aA x.came s with
    |none=>rfl
    |some _=>rw[h3] at h2;exact absurd rfl h2⟩
theorem BN{x:CX}{l:List Node}{s:List UInt8}(h:dU x l s=0):s=(sumOf (aJ l)).data.toList∧(∀o,aA x.has x.name=some o→jM o (x.ent l)=true)∧(aA x.has x.name=none→x.has.length+jZ x≠10):=by
 unfold dU at h
 split at h
 ·cases h
 ·rename_i h1
  refine⟨Classical.byContradiction h1,?_⟩
  cases hf:aA x.has x.name with
  |some o=>
   rw[hf] at h
   simp only at h
   refine⟨fun o' ho=>?_,fun e=>nomatch e⟩
   cases ho
   cases hs:jM o (x.ent l) with
   |true=>rfl
   |false=>rw[hs] at h;exact absurd h (by decide)
  |none=>
   rw[hf] at h
   simp only at h
   refine⟨fun o' ho=>(nomatch ho),fun _ h10=>?_⟩
   rw[if_pos h10] at h
   cases h
theorem LX{x:CX}{ρ:RS}{xr:CX×RS}(h:wu x ρ=.ok xr):
 ∃e,Qz x e∧xr.1={x with name:=e.path,refs:=e.refs,came:=x.came++[e],order:=x.order++[e.path]}∧bM cO++ρ.rest=lD e++xr.2.rest:=by
 unfold wu at h
 obtain⟨y,h1,h⟩:=bind_ok h
 obtain⟨r1,l1,n1,-⟩:=nH h1
 split at h
 ·cases h
 rename_i he
 obtain⟨p1,p2⟩:=uJ (by simpa using he)
 obtain⟨z,h2,h⟩:=bind_ok h
 obtain⟨r2,m2,n2,-⟩:=dO h2
 obtain⟨ρ1,h3,h⟩:=bind_ok h
 obtain⟨d,nd,r,hd,hv,r3,n3,l3⟩:=yH 6 _ _ _ h3 (by rw[n2];simp[RS.clear])
 obtain rfl:d=5:=by omega
 have hn3:ρ1.nodes=nd :: r:=by rw[n3,n2];simp[RS.clear]
 obtain⟨v,h4,h⟩:=bind_ok h
 obtain⟨r4,m4,n4,-⟩:=dO h4
 obtain⟨w,h5,h⟩:=bind_ok h
 obtain⟨more,g1,g2,g3,g4,g5⟩:=Ey _ _ _ _ h5 (by omega) rfl
 obtain⟨t,h6,h⟩:=bind_ok h
 obtain⟨r6,l6,n6,-⟩:=nH h6
 have htn:t.2.nodes=nd :: r:=by rw[n6,g3,n4,hn3]
 split at h
 ·cases h
 rename_i he2
 cases h
 have hw:=BL hv (by rw[←hn3];exact l3)
 obtain⟨s1,s2,s3⟩:=BN (by simpa using he2)
 rw[htn] at s1 s2
 have hx1:w.1={x with name:=y.1,refs:=more}:=by rw[g1];simp[CX.start]
 have hent:w.1.ent (nd :: r)=⟨y.1,nd :: r,more⟩:=by rw[hx1];rfl
 rw[hx1] at s2 s3
 simp only[List.mem_singleton] at m2 m4
 refine⟨⟨y.1,nd :: r,more⟩,⟨p1,p2,hw,g4,fun q hq=>(g5 q hq).2,fun q hq=>(g5 q hq).1,s2,s3⟩,?_,?_⟩
 ·show w.1.put t.2.nodes=_
  rw[htn]
  unfold CX.put
  rw[hent,hx1]
  simp only
  rw[LW (show aA x.came (⟨y.1,nd :: r,more⟩:dI).path=none from p2)]
 ·have e1:aJ (nd :: r)=bM nT++jA nd (bJ r):=by
   rw[J9 hw]
   rfl
  unfold lD
  simp only
  rw[e1] at s1 ⊢
  rw[←s1,r1]
  have r2':y.2.rest=bM z.1++z.2.rest:=r2
  rw[r2',m2,r3,r4,m4,g2,r6]
  simp only[List.append_assoc]
structure Um(x:CX):Prop where
 has:bK x.has
 order:x.order=x.came.map dI.path
 once:x.came.Pairwise fun a b=>a.path≠b.path
 good:∀e∈x.came,fF e.path=true∧bH e.tree= -1∧dB e.refs=true∧(∀r∈e.refs,r.length≤12)∧∀o,aA x.has e.path=some o→jM o e=true
 known:∀i e,x.came[i]? =some e→∀r∈e.refs,r=e.path∨(aA x.has r).isSome=true∨(aA (x.came.take i) r).isSome=true
 ten:x.has.length+jZ x≤10
theorem Um.start{has:aH}(h:bK has):Um (jG has):=⟨h,rfl,List.Pairwise.nil,(fun e he=>nomatch he),(fun i e he=>by simp[jG] at he),(by simpa [jZ,jG] using h.ten)⟩
theorem Um.more{x:CX}{e:dI}(h:Um x)(he:Qz x e):Um {x with name:=e.path,refs:=e.refs,came:=x.came++[e],order:=x.order++[e.path]}:=by
 refine⟨h.has,by simp[h.order],?_,fun o ho=>?_,fun i o ho r hr=>?_,?_⟩
 ·refine List.pairwise_append.2 ⟨h.once,List.pairwise_singleton _ _,fun a ha b hb=>?_⟩
  obtain rfl:=List.mem_singleton.1 hb
  exact gB.1 he.new a ha
 ·rcases List.mem_append.1 ho with ho|ho
  ·exact h.good o ho
  ·obtain rfl:=List.mem_singleton.1 ho
   exact⟨he.path,he.wrong,he.rise,he.short,he.same⟩
 ·simp only at ho ⊢
  by_cases hi:i<x.came.length
  ·rw[List.getElem?_append_left hi] at ho
   rw[List.take_append_of_le_length (by omega)]
   exact h.known i o ho r hr
  ·have hil:i=x.came.length:=by
    have:=(List.getElem?_eq_some_iff.1 ho).1
    simp at this
    omega
   subst hil
   rw[List.getElem?_append_right (Nat.le_refl _)] at ho
   simp only[Nat.sub_self,List.getElem?_cons_zero,Option.some.injEq] at ho
   subst ho
   rw[List.take_left' rfl]
   exact he.known r hr
 ·show x.has.length+(x.came++[e]).countP (fun o:dI=>(aA x.has o.path).isNone)≤10
  rw[List.countP_append]
  have h1:=h.ten
  unfold jZ at h1
  cases hf:aA x.has e.path with
  |some o=>
   have:List.countP (fun o:dI=>(aA x.has o.path).isNone) [e]=0:=by simp[hf]
   omega
  |none=>
   have h2:=he.room hf
   unfold jZ at h2
   have:List.countP (fun o:dI=>(aA x.has o.path).isNone) [e]=1:=by simp[hf]
   omega
theorem Ie:∀(f:Nat) (x:CX) (ρ:RS) (xr:CX×RS),pI f x ρ=.ok xr→ρ.rest.length<f→Um x→Um xr.1∧xr.1.has=x.has∧∃es,xr.1.came=x.came++es∧ρ.rest=es.flatMap lD++(bM iY++xr.2.rest)
 |0,_,_,_,_,h,_=>absurd h (by omega)
 |f+1,x,ρ,xr,h,hf,hx=>by
  unfold pI at h
  obtain⟨y,h1,h⟩:=bind_ok h
  obtain⟨r1,m1,n1,-⟩:=dO h1
  have ly:=bn h1
  split at h
  ·rename_i hy
   obtain⟨z,h2,h⟩:=bind_ok h
   have lz:=Hw h2
   obtain⟨e,g1,g2,g3⟩:=LX h2
   obtain⟨k1,k2,es,k3,k4⟩:=Ie f z.1 z.2 xr h (by omega) (by rw[g2];exact hx.more g1)
   refine⟨k1,by rw[k2,g2],e :: es,by rw[k3,g2];simp,?_⟩
   rw[r1,hy,g3,k4]
   simp
  ·rename_i hy
   cases h
   have hy2:y.1=iY:=by
    simp only[List.mem_cons,List.not_mem_nil,or_false] at m1
    exact m1.resolve_left hy
   refine⟨hx,rfl,[],by simp,?_⟩
   rw[r1,hy2]
   simp
theorem zB{has:aH}{S:List UInt8}{x:CX}(h:gq has S=.ok x)(hs:bK has):Um x∧x.has=has∧S=Gq x.came:=by
 unfold gq at h
 obtain⟨y,h1,h⟩:=bind_ok h
 obtain⟨r1,m1,n1,-⟩:=dO h1
 obtain⟨z,h2,h⟩:=bind_ok h
 have ly:=bn h1
 split at h
 ·rename_i hz
  cases h
  obtain⟨k1,k2,es,k3,k4⟩:=Ie _ _ _ _ h2 (by simp only at ly;omega) (Um.start hs)
  refine⟨k1,k2,?_⟩
  simp only[List.mem_singleton] at m1
  simp only at r1
  have k5:z.1.came=es:=by rw[k3];simp[jG]
  rw[r1,m1,k4,k5,hz,List.append_nil]
  rfl
 ·cases h
def tJ(x:aH×List (List UInt8))(e:dI):aH×List (List UInt8):=if (aA x.1 e.path).isSome then x else (ou x.1 e,x.2++[e.path])
def bG(has came:aH):aH×List (List UInt8):=came.foldl tJ (has,[])
theorem wE(has came:aH)(e:dI):bG has (came++[e])=tJ (bG has came) e:=by simp[bG]
theorem Ez{L:aH}{e:dI}{p:List UInt8}:(aA (ou L e) p).isSome=true↔p=e.path∨(aA L p).isSome=true:=by
 rw[dH,dH]
 constructor
 ·rintro ⟨o,ho,rfl⟩
  rcases gG.1 ho with rfl|ho
  ·exact .inl rfl
  ·exact .inr ⟨o,ho,rfl⟩
 ·rintro (rfl|⟨o,ho,rfl⟩)
  ·exact⟨e,gG.2 (.inl rfl),rfl⟩
  ·exact⟨o,gG.2 (.inr ho),rfl⟩
theorem Ig{L:aH}{e:dI}{p:List UInt8}:(aA (L++[e]) p).isSome=true↔(aA L p).isSome=true∨p=e.path:=by
 rw[dH,dH]
 constructor
 ·rintro ⟨o,ho,rfl⟩
  rcases List.mem_append.1 ho with ho|ho
  ·exact .inl ⟨o,ho,rfl⟩
  ·obtain rfl:=List.mem_singleton.1 ho
   exact .inr rfl
 ·rintro (⟨o,ho,rfl⟩|rfl)
  ·exact⟨o,List.mem_append.2 (.inl ho),rfl⟩
  ·exact⟨e,List.mem_append.2 (.inr (List.mem_singleton.2 rfl)),rfl⟩
structure Ih(has came:aH)(y:aH×List (List UInt8)):Prop where
 ok:bK y.1
 some:∀p,(aA y.1 p).isSome=true↔(aA has p).isSome=true∨(aA came p).isSome=true
 len:y.1.length=has.length+came.countP fun e=>(aA has e.path).isNone
 mem:∀e∈y.1,e∈has∨e∈came
theorem Ih.step{has came:aH}{y:aH×List (List UInt8)}{e:dI}(h:Ih has came y)(hn:aA came e.path=none)(h1:fF e.path=true)(h2:bH e.tree= -1)(h3:dB e.refs=true)
 (hk:∀r∈e.refs,r=e.path∨(aA has r).isSome=true∨(aA came r).isSome=true) (ht:has.length+(came++[e]).countP (fun o=>(aA has o.path).isNone)≤10):Ih has (came++[e]) (tJ y e):=by
 unfold tJ
 by_cases hf:(aA y.1 e.path).isSome=true
 ·rw[if_pos hf]
  have hh:(aA has e.path).isSome=true:=by
   rcases (h.some _).1 hf with g|g
   ·exact g
   ·rw[hn] at g;cases g
  refine⟨h.ok,fun p=>?_,?_,fun o ho=>(h.mem o ho).imp id fun g=>List.mem_append.2 (.inl g)⟩
  ·rw[h.some,Ig]
   constructor
   ·rintro (g|g)
    ·exact .inl g
    ·exact .inr (.inl g)
   ·rintro (g|g|rfl)
    ·exact .inl g
    ·exact .inr g
    ·exact .inl hh
  ·rw[h.len,List.countP_append]
   have:List.countP (fun o:dI=>(aA has o.path).isNone) [e]=0:=by
    cases hx:aA has e.path with
    |none=>rw[hx] at hh;cases hh
    |some _=>simp[hx]
   omega
 ·rw[if_neg hf]
  have hh:(aA has e.path).isNone=true:=by
   cases hx:aA has e.path with
   |none=>rfl
   |some _=>exact absurd ((h.some _).2 (.inl (by rw[hx];rfl))) hf
  have hfn:aA y.1 e.path=none:=by
   cases hx:aA y.1 e.path with
   |none=>rfl
   |some _=>exact absurd (by rw[hx];rfl) hf
  have hlen:(ou y.1 e).length=has.length+(came++[e]).countP (fun o=>(aA has o.path).isNone):=by
   rw[ni,h.len,List.countP_append]
   have:List.countP (fun o:dI=>(aA has o.path).isNone) [e]=1:=by simp[hh]
   omega
  refine⟨⟨GK h.ok.rise hfn,Nat.le_trans (Nat.le_of_eq hlen) ht,fun o ho=>?_,fun o ho r hr=>?_⟩,fun p=>?_,hlen,fun o ho=>?_⟩
  ·rcases gG.1 ho with rfl|ho
   ·exact⟨h1,h2,h3⟩
   ·exact h.ok.good o ho
  ·rw[Ez]
   rcases gG.1 ho with rfl|ho
   ·rcases hk r hr with g|g|g
    ·exact .inl g
    ·exact .inr ((h.some r).2 (.inl g))
    ·exact .inr ((h.some r).2 (.inr g))
   ·exact .inr (h.ok.has o ho r hr)
  ·rw[Ez,h.some,Ig]
   constructor
   ·rintro (g|g|g)
    ·exact .inr (.inr g)
    ·exact .inl g
    ·exact .inr (.inl g)
   ·rintro (g|g|g)
    ·exact .inr (.inl g)
    ·exact .inr (.inr g)
    ·exact .inl g
  ·rcases gG.1 ho with rfl|ho
   ·exact .inr (List.mem_append.2 (.inr (List.mem_singleton.2 rfl)))
   ·exact(h.mem o ho).imp id fun g=>List.mem_append.2 (.inl g)
theorem EC{α:Type}(p:α→Bool)(l:List α)(k:Nat):(l.take k).countP p≤l.countP p:=(List.take_sublist k l).countP_le
theorem tK{x:CX}(h:Um x):∀k,k≤x.came.length→Ih x.has (x.came.take k) (bG x.has (x.came.take k))
 |0,_=>⟨h.has,fun p=>by simp[bG,aA],by simp[bG],fun e he=>.inl he⟩
 |k+1,hk=>by
  have ih:=tK h k (by omega)
  obtain⟨e,he⟩:∃e,x.came[k]? =some e:=⟨_,List.getElem?_eq_getElem (by omega)⟩
  have hem:=List.mem_of_getElem? he
  have ht:x.came.take (k+1)=x.came.take k++[e]:=by rw[List.take_add_one,he];rfl
  rw[ht,wE]
  obtain⟨g1,g2,g3,-⟩:=h.good e hem
  refine ih.step ?_ g1 g2 g3 (h.known k e he) ?_
  ·refine gB.2 fun o ho e2=>?_
   obtain⟨i,hi,hoi⟩:=List.getElem_of_mem ho
   have hik:i<k:=by simp at hi;omega
   have h3:=List.pairwise_iff_getElem.1 h.once i k (by omega) (by omega) hik
   rw[List.getElem_take] at hoi
   rw[hoi] at h3
   have h4:x.came[k]'(by omega)=e:=by
    have:=List.getElem?_eq_getElem (l:=x.came) (i:=k) (by omega)
    rw[this] at he
    exact Option.some.inj he
   rw[h4] at h3
   exact h3 e2
  ·rw[←ht]
   have h1:=h.ten
   unfold jZ at h1
   have h2:=EC (fun e:dI=>(aA x.has e.path).isNone) x.came (k+1)
   omega
end Go.Proofs.YtdkogijdfgfpeaaGreatDoor

/- narref.reader: fail, next. -/
import Derived.Test.YtdkogijdfgfpeaaGreatDoorZRead
import Derived.Test.YtdkogijdfgfpeaaGreatDoorZRefA
import Derived.Test.YtdkogijdfgfpeaaGreatDoorZPMem
import Derived.Test.YtdkogijdfgfpeaaGreatDoorZPInv
import Derived.Deep.QuietTactic
import Derived.Test.YtdkogijdfgfpeaaGreatDoorZPack
set_option linter.unusedVariables false
namespace Go.Proofs.YtdkogijdfgfpeaaGreatDoor
open Go Go.RowKit
set_option maxHeartbeats 1600000
set_option maxRecDepth 100000
abbrev RT:TypeId:=173
structure RQ where
 at':Nat
 e:Int
 bad:Int
 l:List Node
def RQ.fail(q:RQ)(e p:Int):RQ:=if q.e=0 then {q with e:=e,bad:=p} else q
def RQ.rs(S:List UInt8)(q:RQ):RS:=⟨S.drop q.at',q.at',q.l⟩
def aV(S:List UInt8)(most:Nat)(q:RQ):List UInt8×RQ:=
 if q.e≠0 then ([],q) else match fD most (q.rs S) with
  | .error x=>([],{q with e:=x.1,bad:=x.2})
  | .ok x=>(x.1,{q with at':=x.2.at'})
structure lF(B b:Nat)(gy:List (Value×List Node))(S:List UInt8)(q:RQ)(w:World)(vl:Value):Prop where
 blk:aS w b #[sv S,.int .i64 q.at',.int .i64 q.e,.int .i64 q.bad,vl] RT
 le:B≤b
 nodes:Sl w B 49 3 vl q.l.length (ak q.l)
 small:S.length≤549755813888
 jR:q.at'≤S.length
 kept:∀t∈gy,Sl w B 49 3 t.1 t.2.length (ak t.2)∧Ahead 3 vl t.1
theorem lF.keeps{B b:Nat}{gy:List (Value×List Node)}{S:List UInt8}{q:RQ}{w w':World}{vl:Value}(h:lF B b gy S q w vl)(hk:Keeps Non w w'):lF B b gy S q w' vl:=
 ⟨h.blk.keeps hk (fun h=>h),h.le,h.nodes.kp (Kp.aI (B:=B) (Ts:=[]) hk) (.inl (by simp)),h.small,h.jR,fun t ht=>⟨(h.kept t ht).1.kp (Kp.aI (B:=B) (Ts:=[]) hk) (.inl (by simp)),(h.kept t ht).2⟩⟩
theorem lF.wF{B b:Nat}{gy:List (Value×List Node)}{S:List UInt8}{q:RQ}{w:World}{vl:Value}(h:lF B b gy S q w vl)(j:Nat)(v:Value):Kp B [RT] w (w.setCell ⟨b,j,none⟩ v):=(Kp.refl _ _ _).set h.blk (.inr ⟨h.le,by simp⟩) _ _
theorem dP{B b:Nat}{gy:List (Value×List Node)}{S:List UInt8}{q:RQ}{w:World}{vl:Value}(h:lF B b gy S q w vl)(e p:Int):
 Calls Tryz.prog 111 #[.pointer (some ⟨b,0,none⟩),.int .i64 e,.int .i64 p] w fun ed w'=>ed=.returned (.tuple #[])∧lF B b gy S (q.fail e p) w' vl∧Kp B [RT] w w':=by
 have c2:w.cell? ⟨b,2,none⟩=some (.int .i64 q.e):=h.blk.cell 2
 have c3:w.cell? ⟨b,3,none⟩=some (.int .i64 q.bad):=h.blk.cell 3
 have f2:=h.blk.free 2
 have f3:=h.blk.free 3
 have H:=Lib.hid h
 clear h
 by_cases he:q.e=0
 ·have HS:Hid (q.fail e p={q with e:=e,bad:=p}):=by show _=_;rw[RQ.fail,if_pos he]
  have hb:(q.e==0)=true:=by rw[he];rfl
  clear he
  go_enter Tryz.func111,Tryz.ntmps111
  go_wp2_with fail
  go_end0
  have k1:=H.out.wF 2 (.int .i64 e)
  have b1:=H.out.blk.set 2 (.int .i64 e)
  have k2:=k1.set b1 (.inr ⟨H.out.le,by simp⟩) 3 (.int .i64 p)
  have b2:=b1.set 3 (.int .i64 p)
  refine⟨rfl,?_,k2⟩
  rw[HS.out]
  exact⟨b2,H.out.le,H.out.nodes.kp k2 (.inl (by decide)),H.out.small,H.out.jR,fun t ht=>⟨(H.out.kept t ht).1.kp k2 (.inl (by decide)),(H.out.kept t ht).2⟩⟩
 ·have HS:Hid (q.fail e p=q):=by show _=_;rw[RQ.fail,if_neg he]
  have hb:(q.e==0)=false:=by rw[beq_eq_false_iff_ne];exact he
  clear he
  go_enter Tryz.func111,Tryz.ntmps111
  go_wp2_with fail
  go_end0
  refine⟨rfl,?_,Kp.refl _ _ _⟩
  rw[HS.out]
  exact H.out
def AV:List UInt8→Nat
 | []=>0
 |b :: r=>256*min (AV r) 1099511627776+b.toNat
theorem Ij:∀l:List UInt8,(cu l≤1099511627776→AV l=cu l)∧(1099511627776<cu l→1099511627776<AV l)
 | []=>by simp[AV,cu]
 |b :: r=>by
  obtain⟨h1,h2⟩:=Ij r
  have hb:=UInt8.toNat_lt b
  simp only[AV,cu]
  rcases Nat.lt_or_ge 1099511627776 (cu r) with h|h
  ·have:=h2 h;omega
  ·have:=h1 h;omega
theorem QD(l:List UInt8):AV l<562949953421312:=by
 cases l with
 |nil=>simp[AV]
 |cons b r=>
  have hb:=UInt8.toNat_lt b
  simp only[AV]
  omega
theorem Wj{l:List UInt8}{o p j:Nat}(hj:j<p)(hl:o+p≤l.length)(hne:l.getD (o+j) 0≠0):((l.drop o).take p).any (· != 0)=true:=by
 rw[List.any_eq_true]
 refine⟨l.getD (o+j) 0,?_,by simpa using hne⟩
 rw[List.getD,List.getElem?_eq_getElem (by omega),Option.getD_some]
 have:((l.drop o).take p)[j]'(by simp;omega)=l[o+j]'(by omega):=by simp
 rw[←this]
 exact List.getElem_mem _
theorem SE{l:List UInt8}{o p:Nat}(hl:o+p≤l.length)(h:∀j,j<p→l.getD (o+j) 0=0):¬((l.drop o).take p).any (· != 0)=true:=by
 rw[List.any_eq_true]
 rintro ⟨x,hx,hne⟩
 obtain⟨i,hi,rfl⟩:=List.getElem_of_mem hx
 have hip:i<p:=by simp at hi;omega
 have:=h i hip
 rw[List.getD,List.getElem?_eq_getElem (by omega),Option.getD_some] at this
 simp at hne
 exact hne this
theorem lG{q:RQ}(e p:Int)(h:q.e=0):q.fail e p={q with e:=e,bad:=p}:=by rw[RQ.fail,if_pos h]
theorem oV{B b:Nat}{gy:List (Value×List Node)}{S:List UInt8}{q:RQ}{w:World}{vl:Value}(h:lF B b gy S q w vl)(most:Nat)(hm:most≤1000):
 Calls Tryz.prog 110 #[.pointer (some ⟨b,0,none⟩),.int .i64 most] w fun ed w'=>ed=.returned (.string ⟨(aV S most q).1.toArray⟩)∧lF B b gy S (aV S most q).2 w' vl∧Kp B [RT] w w':=by
 have c0:w.cell? ⟨b,0,none⟩=some (sv S):=h.blk.cell 0
 have c1:w.cell? ⟨b,1,none⟩=some (.int .i64 q.at'):=h.blk.cell 1
 have c2:w.cell? ⟨b,2,none⟩=some (.int .i64 q.e):=h.blk.cell 2
 have f1:=h.blk.free 1
 have hsm:=h.small
 have hat:=h.jR
 unfold sv at c0
 have H:=Lib.hid h
 clear h
 by_cases he:q.e=0
 ·have hb:(q.e==0)=true:=by rw[he];rfl
  have hb2:(q.e !=0)=false:=by rw[he];rfl
  have HQ:Hid (aV S most q=match fD most (q.rs S) with
   | .error x=>([],{q with e:=x.1,bad:=x.2})
   | .ok x=>(x.1,{q with at':=x.2.at'})):=by show _=_;rw[aV,if_neg (by simp[he])]
  have HE:=Lib.hid he
  clear he
  have hrl:(S.drop q.at').length=S.length-q.at':=List.length_drop
  have q1:(0:Int)≤(q.at':Int):=by omega
  have q2:(q.at':Int)≤(S.length:Int):=by omega
  obtain⟨L,hL⟩:∃L:ByteArray,L=⟨(S.drop q.at').toArray⟩:=⟨_,rfl⟩
  have hLs:L.size=S.length-q.at':=by rw[hL,←hrl];simp[ByteArray.size]
  have hex:(⟨S.toArray⟩:ByteArray).extract q.at' S.length=L:=by
   rw[hL];apply wQ;rw[ext_list,List.take_of_length_le (by simp)]
  have HL:Hid (L.data.toList=S.drop q.at'):=by show _=_;rw[hL]
  have HEX:=Lib.hid hex
  have HLS:=Lib.hid hLs
  have hLb:L.size≤549755813888:=by omega
  clear hL hex hrl hLs
  by_cases h8:L.size<8
  ·have hd:decide ((L.size:Int)<8)=true:=by simp;omega
   have HN:Hid (aV S most q=([],{q with e:=2,bad:=(S.length:Int)})):=by
    show _=_
    rw[HQ.out,fD,if_pos (by show(S.drop q.at').length<8;rw[List.length_drop,←HLS.out];exact h8)]
    simp only[RS.few,RQ.rs,List.length_drop]
    congr 2
    omega
   go_enter Tryz.func110,Tryz.ntmps110
   go_wp2_with fail
   go_quiet (fail)
   rw[HEX.out]
   have HW:Hid (lF B b gy S q (w.drewN nq) vl∧Kp B [RT] w (w.drewN nq)):=⟨H.out.keeps ((Keeps.refl _ _).drewN _),(Kp.refl _ _ _).drewN _⟩
   have d0:(w.drewN nq).cell? ⟨b,0,none⟩=some (.string ⟨S.toArray⟩):=c0
   generalize w.drewN nq=w1 at *
   clear c0 c1 c2 f1
   go_wp2_with fail
   refine(dP HW.out.1 2 _).mono ?_
   rintro e w2 ⟨rfl,h2,k2⟩
   have H2:=Lib.hid h2
   have K2:=Lib.hid (HW.out.2.trans k2)
   clear h2 k2
   go_wp2_with fail
   go_ret
   rw[HN.out]
   refine⟨rfl,?_,K2.out⟩
   have:=H2.out
   rw[lG _ _ HE.out] at this
   exact this
  ·have hd:decide ((L.size:Int)<8)=false:=by simp;omega
   go_enter Tryz.func110,Tryz.ntmps110
   go_wp2_with fail
   go_quiet (fail)
   rw[HEX.out]
   have HW:Hid (lF B b gy S q (w.drewN nq) vl∧Kp B [RT] w (w.drewN nq)):=⟨H.out.keeps ((Keeps.refl _ _).drewN _),(Kp.refl _ _ _).drewN _⟩
   have d0:(w.drewN nq).cell? ⟨b,0,none⟩=some (.string ⟨S.toArray⟩):=c0
   have d1:(w.drewN nq).cell? ⟨b,1,none⟩=some (.int .i64 q.at'):=c1
   have g1:(w.drewN nq).frozen? ⟨b,1,none⟩=false:=f1
   generalize w.drewN nq=w1 at *
   clear c0 c1 c2 f1
   have UH:(L.data.toList.take 8).length=8:=by rw[List.length_take,dlen];omega
   obtain⟨l8,aa9⟩:∃l8,L.data.toList.take 8=l8:=⟨_,rfl⟩
   rw[aa9] at UH
   have HL8:=Lib.hid UH
   have adH:=Lib.hid aa9
   clear UH aa9
   go_wp2_with fail
   go_loopg [6,7] 8 (fun gk n i wr=>∃j:Nat,gk=j∧j≤8∧i=.int .i64 ((j:Int)-1)∧n=.int .u64 (AV (l8.drop j):Nat)∧w1=wr)
   case atStart=>exact⟨8,rfl,by omega,by go_num,by rw[List.drop_of_length_le (by rw[HL8.out];omega)];rfl,rfl⟩
   case round=>
    obtain⟨j,rfl,hj,hi,rfl,rfl⟩:=hrel
    rcases gk with _|t
    ·rw[show((0:Nat):Int)-1= -1 by omega] at hi
     subst hi
     rw[List.drop_zero]
     obtain⟨n,hn⟩:∃n,AV l8=n:=⟨_,rfl⟩
     rw[hn]
     have HN:=Lib.hid hn
     have alP:n<562949953421312:=by rw[←hn];exact QD _
     have hspec:=Ij l8
     rw[hn] at hspec
     have HR0:Hid ((q.rs S).rest.take 8=l8∧(q.rs S).rest.length=L.size):=⟨by rw[←adH.out,HL.out];rfl,by rw[←dlen,HL.out];rfl⟩
     clear hn
     by_cases hmn:most<n
     ·have hd3:decide ((most:Int)<(n:Int))=true:=by simp;omega
      have hd4:decide (most<n)=true:=by simp;omega
      have HX:Hid (aV S most q=([],{q with e:=3,bad:=(q.at':Int)})):=by
       show _=_
       rw[HQ.out,fD,if_neg (by rw[HR0.out.2];omega),HR0.out.1,if_pos (by omega)]
       rfl
      clear hspec hmn
      go_wp2_with fail
      refine(dP HW.out.1 3 _).mono ?_
      rintro e w2 ⟨rfl,h2,k2⟩
      have H2:=Lib.hid h2
      have K2:=Lib.hid (HW.out.2.trans k2)
      clear h2 k2
      go_wp2_with fail
      go_ret
      rw[HX.out]
      refine⟨rfl,?_,K2.out⟩
      have:=H2.out
      rw[lG _ _ HE.out] at this
      exact this
     ·have hd3:decide ((most:Int)<(n:Int))=false:=by simp;omega
      have hd4:decide (most<n)=false:=by simp;omega
      have hnn:cu l8=n:=by omega
      have hn1:n≤1000:=by omega
      have Qd:=lK n
      have HNN:=Lib.hid hnn
      clear hspec
      go_upto_region 18 with(fail)
      have hfull:(8+(n:Int)+7) / 8*8=((8+n+dN n:Nat):Int):=by unfold dN;omega
      rw[hfull]
      clear hfull
      obtain⟨F,hF⟩:∃F,8+n+dN n=F:=⟨_,rfl⟩
      rw[hF]
      have HX0:Hid (aV S most q=match (if L.size<F then .error (q.rs S).few else if ((L.data.toList.drop (8+n)).take (dN n)).any (· != 0) then .error (4,(q.at':Int)) else .ok ((L.data.toList.drop 8).take n,(q.rs S).skip F):RE (List UInt8×RS)) with
       | .error x=>([],{q with e:=x.1,bad:=x.2})
       | .ok x=>(x.1,{q with at':=x.2.at'})):=by
       show _=_
       rw[HQ.out,fD,if_neg (by rw[HR0.out.2];omega),HR0.out.1,HNN.out,if_neg hmn,HR0.out.2,hF,show(q.rs S).rest=L.data.toList from HL.out.symm]
       rfl
      by_cases MC:L.size<F
      ·have hd5:decide ((L.size:Int)<(F:Int))=true:=by simp;omega
       have hd6:decide (L.size<F)=true:=by simp;omega
       have HX:Hid (aV S most q=([],{q with e:=2,bad:=(S.length:Int)})):=by
        show _=_
        rw[HX0.out,if_pos MC]
        simp only[RS.few,RQ.rs,List.length_drop]
        congr 2
        omega
       clear hmn hnn MC hF
       go_wp2_with fail
       refine(dP HW.out.1 2 _).mono ?_
       rintro e w2 ⟨rfl,h2,k2⟩
       have H2:=Lib.hid h2
       have K2:=Lib.hid (HW.out.2.trans k2)
       clear h2 k2
       go_wp2_with fail
       go_ret
       rw[HX.out]
       refine⟨rfl,?_,K2.out⟩
       have:=H2.out
       rw[lG _ _ HE.out] at this
       exact this
      ·have hd5:decide ((L.size:Int)<(F:Int))=false:=by simp;omega
       have hd6:decide (L.size<F)=false:=by simp;omega
       have hFl:F≤L.size:=by omega
       have hF9:F≤1015:=by omega
       have Wn:=Lib.hid hF
       have HNF:Hid (¬L.size<F):=MC
       have hnF:8+n≤F:=by omega
       have e1:(8+(n:Int)).toNat=8+n:=by omega
       have e2:8+n≤L.size:=by omega
       have e3:(8:Int)≤8+(n:Int):=by omega
       have e4:8+(n:Int)≤(L.size:Int):=by omega
       clear hmn hnn MC hF
       go_wp2_with fail
       go_loopg [10] (F-(8+n)) (fun gk kv wr=>∃k:Nat,gk=F-k∧k≤F∧8+n≤k∧kv=.int .i64 (k:Int)∧w1=wr∧Hid (∀i,i<k-(8+n)→L.data.toList.getD (8+n+i) 0=0))
       case atStart=>exact⟨8+n,rfl,hnF,Nat.le_refl _,by go_num,rfl,fun i hi=>by omega⟩
       case round=>
        obtain⟨k,rfl,hk,hk8,rfl,rfl,HZ⟩:=hrel
        by_cases hlt:k<F
        ·have hkl:k<L.size:=by omega
         have hkd:L.data.toList.getD k 0=L[k]:=by
          rw[List.getD,List.getElem?_eq_getElem (by rw[dlen];exact hkl)];rfl
         by_cases hx:L[k]=0
         ·have hb0:((L[k].toNat:Int) !=0)=false:=by rw[hx];rfl
          have hb1:((L[k].toNat:Int)==0)=true:=by rw[hx];rfl
          have HZ2:Hid (∀i,i<k+1-(8+n)→L.data.toList.getD (8+n+i) 0=0):=fun i hi=>by
           by_cases e:i<k-(8+n)
           ·exact HZ.out i e
           ·rw[show 8+n+i=k by omega,hkd,hx]
          clear hkd hx
          go_wp2_with fail
          go_roundg (F-(k+1))
          case measure=>omega
          case rel=>exact⟨k+1,rfl,by omega,by omega,by go_num,rfl,HZ2⟩
         ·have hb1:((L[k].toNat:Int)==0)=false:=by
           rw[beq_eq_false_iff_ne];intro e;exact hx (UInt8.toNat_inj.1 (show L[k].toNat=0 by omega))
          have hb0:((L[k].toNat:Int) !=0)=true:=by unfold bne;rw[hb1];rfl
          have HX:Hid (aV S most q=([],{q with e:=4,bad:=(q.at':Int)})):=by
           show _=_
           rw[HX0.out,if_neg HNF.out,if_pos (Wj (j:=k-(8+n)) (by have:=Wn.out;omega) (by rw[dlen];have:=Wn.out;omega) (by rw[show 8+n+(k-(8+n))=k by omega,hkd];exact hx))]
          clear hkd hx
          go_wp2_with fail
          refine(dP HW.out.1 4 _).mono ?_
          rintro e w2 ⟨rfl,h2,k2⟩
          have H2:=Lib.hid h2
          have K2:=Lib.hid (HW.out.2.trans k2)
          clear h2 k2
          go_wp2_with fail
          go_ret
          rw[HX.out]
          refine⟨rfl,?_,K2.out⟩
          have:=H2.out
          rw[lG _ _ HE.out] at this
          exact this
        ·have hkF:k=F:=by omega
         subst hkF
         have HX:Hid (aV S most q=((L.data.toList.drop 8).take n,{q with at':=q.at'+k})):=by
          show _=_
          rw[HX0.out,if_neg HNF.out,if_neg (SE (by rw[dlen];have:=Wn.out;omega) (fun j hj=>HZ.out j (by have:=Wn.out;omega)))]
          rfl
         have e5:IntKind.i64.wrap ((q.at':Int)+(k:Int))=(q.at':Int)+(k:Int):=IntWalk.i64_in _ (by omega)
         go_wp2_with fail
         go_ret
         have b2:=HW.out.1.blk.set 1 (.int .i64 ((q.at':Int)+(k:Int)))
         have k2:=HW.out.1.wF 1 (.int .i64 ((q.at':Int)+(k:Int)))
         rw[HX.out]
         refine⟨?_,⟨?_,H.out.le,HW.out.1.nodes.kp k2 (.inl (by decide)),hsm,?_,fun t ht=>⟨(HW.out.1.kept t ht).1.kp k2 (.inl (by decide)),(HW.out.1.kept t ht).2⟩⟩,HW.out.2.trans k2⟩
         ·have hex:L.extract 8 (8+n)=⟨((L.data.toList.drop 8).take n).toArray⟩:=by
           apply wQ;rw[ext_list];simp
          show _=Ending.returned (.string ⟨((L.data.toList.drop 8).take n).toArray⟩)
          rw[←hex]
          rfl
         ·have e6:(#[sv S,.int .i64 (q.at':Int),.int .i64 q.e,.int .i64 q.bad,vl]:Array Value).setIfInBounds 1 (.int .i64 ((q.at':Int)+(k:Int)))=#[sv S,.int .i64 ((q.at'+k:Nat):Int),.int .i64 q.e,.int .i64 q.bad,vl]:=by simp
          rw[e6] at b2
          exact b2
         ·show q.at'+k≤S.length
          have:=HLS.out
          omega
    ·rw[show((t+1:Nat):Int)-1=(t:Int) by omega] at hi
     subst hi
     have htl:t<L.size:=by omega
     have hdr:l8.drop t=L[t] :: l8.drop (t+1):=by
      have h1:t<l8.length:=by rw[HL8.out];omega
      rw[List.drop_eq_getElem_cons h1]
      congr 1
      have h2:=adH.out
      subst h2
      rw[List.getElem_take]
      rfl
     have hnum:AV (l8.drop t)=256*min (AV (l8.drop (t+1))) 1099511627776+L[t].toNat:=by rw[hdr];rfl
     have adI:=Lib.hid hnum
     have ajI:=QD (l8.drop (t+1))
     have hb256:=UInt8.toNat_lt L[t]
     clear hdr hnum
     generalize AV (l8.drop (t+1))=N at *
     have h0t:(0:Int)≤(t:Int):=by omega
     by_cases hbig:1099511627776<N
     ·have hd3:decide ((1099511627776:Int)<(N:Int))=true:=by simp;omega
      have hd4:decide (1099511627776<N)=true:=by simp;omega
      have e2:IntKind.u64.wrap (281474976710656+(L[t].toNat:Int))=281474976710656+(L[t].toNat:Int):=by show(_:Int) % 2 ^ 64=_;omega
      go_wp2_with fail
      go_roundg t
      case measure=>omega
      case rel=>
       refine⟨t,rfl,by omega,by go_num,?_,rfl⟩
       rw[adI.out,Nat.min_eq_right (by omega)]
       congr 1
     ·have hd3:decide ((1099511627776:Int)<(N:Int))=false:=by simp;omega
      have hd4:decide (1099511627776<N)=false:=by simp;omega
      have e1:IntKind.u64.wrap (256*(N:Int))=256*(N:Int):=by show(_:Int) % 2 ^ 64=_;omega
      have e2:IntKind.u64.wrap (256*(N:Int)+(L[t].toNat:Int))=256*(N:Int)+(L[t].toNat:Int):=by show(_:Int) % 2 ^ 64=_;omega
      go_wp2_with fail
      go_roundg t
      case measure=>omega
      case rel=>
       refine⟨t,rfl,by omega,by go_num,?_,rfl⟩
       rw[adI.out,Nat.min_eq_left (by omega)]
       congr 1
 ·have hb:(q.e==0)=false:=by rw[beq_eq_false_iff_ne];exact he
  have hb2:(q.e !=0)=true:=by unfold bne;rw[hb];rfl
  have HN:Hid (aV S most q=([],q)):=by show _=_;rw[aV,if_pos he]
  clear he
  go_enter Tryz.func110,Tryz.ntmps110
  go_wp2_with fail
  go_ret
  rw[HN.out]
  exact⟨rfl,H.out,Kp.refl _ _ _⟩
def aB(S:List UInt8)(may:List (List UInt8))(q:RQ):List UInt8×RQ:=
 if (aV S 8 q).2.e=0∧(aV S 8 q).1∈may then aV S 8 q else ([],(aV S 8 q).2.fail 5 q.at')
theorem qC{B b:Nat}{gy:List (Value×List Node)}{S:List UInt8}{q:RQ}{w:World}{vl:Value}(h:lF B b gy S q w vl)(may:List (List UInt8))(v:Value)(hv:Sl w 0 9 1 v may.length (bf may)):
 Calls Tryz.prog 109 #[.pointer (some ⟨b,0,none⟩),v] w fun ed w'=>ed=.returned (.string ⟨(aB S may q).1.toArray⟩)∧lF B b gy S (aB S may q).2 w' vl∧Kp B [RT] w w':=by
 obtain⟨a0,c0,rfl,hc1,hc2⟩:=hv.shape
 unfold maxLen at hc2
 have c1:w.cell? ⟨b,1,none⟩=some (.int .i64 q.at'):=h.blk.cell 1
 have H:=Lib.hid h
 have HV:=Lib.hid hv
 clear h hv
 go_enter Tryz.func109,Tryz.ntmps109
 go_wp2_with fail
 refine(oV H.out 8 (by omega)).mono ?_
 rintro e w1 ⟨rfl,h1,k1⟩
 have HQ:Hid (aB S may q=if (aV S 8 q).2.e=0∧(aV S 8 q).1∈may then ((aV S 8 q).1,(aV S 8 q).2) else ([],(aV S 8 q).2.fail 5 q.at')):=by
  show _=_;rw[aB]
 obtain⟨s,hs⟩:∃s,(aV S 8 q).1=s:=⟨_,rfl⟩
 obtain⟨q1,hq1⟩:∃q1,(aV S 8 q).2=q1:=⟨_,rfl⟩
 rw[hs,hq1] at HQ
 rw[hq1] at h1
 rw[hs]
 have HV1:Hid (Sl w1 0 9 1 (.slice a0 may.length c0) may.length (bf may)):=HV.out.kp k1 (.inl (by decide))
 have d2:w1.cell? ⟨b,2,none⟩=some (.int .i64 q1.e):=h1.blk.cell 2
 have H1:=Lib.hid h1
 have K1:=Lib.hid k1
 clear h1 k1 hs hq1 c1 HV H
 go_wp2_with fail
 go_loopg [17] may.length (fun gk iv wr=>∃k:Nat,gk=may.length-k∧k≤may.length∧iv=.int .i64 k∧w1=wr∧Hid (∀i,i<k→¬(q1.e=0∧may[i]? =some s)))
 case atStart=>exact⟨0,rfl,Nat.zero_le _,rfl,rfl,fun i hi=>by omega⟩
 case round=>
  obtain⟨k,rfl,hk,rfl,rfl,HZ⟩:=hrel
  by_cases hlt:k<may.length
  ·obtain⟨b',o',c',hsh,-,-,-,kZ,hcc,-⟩:=HV1.out.pos (by omega)
   cases hsh
   have d0:w1.cell? ⟨b',o'+k,none⟩=some (sv may[k]):=(hcc k (by omega)).trans (by simp[bf,List.getElem?_eq_getElem hlt])
   unfold sv at d0
   have HMK:Hid (may[k]? =some may[k]∧may[k]∈may):=⟨List.getElem?_eq_getElem hlt,List.getElem_mem hlt⟩
   generalize may[k]=x at *
   clear hcc
   by_cases hx:x=s
   ·subst hx
    have hb:(x==x)=true:=beq_self_eq_true x
    by_cases he:q1.e=0
    ·have hb2:(q1.e==0)=true:=by rw[he];rfl
     have HF:Hid (aB S may q=(x,q1)):=by show _=_;rw[HQ.out,if_pos ⟨he,HMK.out.2⟩]
     clear he
     go_wp2_with fail
     go_ret
     rw[HF.out]
     exact⟨rfl,H1.out,K1.out⟩
    ·have hb2:(q1.e==0)=false:=by rw[beq_eq_false_iff_ne];exact he
     have HZ2:Hid (∀i,i<k+1→¬(q1.e=0∧may[i]? =some x)):=fun i hi h=>he h.1
     clear he
     go_wp2_with fail
     go_roundg (may.length-(k+1))
     case measure=>omega
     case rel=>exact⟨k+1,rfl,by omega,by go_num,rfl,HZ2⟩
   ·have hb:(s==x)=false:=by rw[beq_eq_false_iff_ne];exact fun e=>hx e.symm
    have HZ2:Hid (∀i,i<k+1→¬(q1.e=0∧may[i]? =some s)):=fun i hi h=>by
     by_cases e:i<k
     ·exact HZ.out i e h
     ·rw[show i=k by omega,HMK.out.1] at h
      exact hx (Option.some.inj h.2)
    clear hx
    go_wp2_with fail
    go_roundg (may.length-(k+1))
    case measure=>omega
    case rel=>exact⟨k+1,rfl,by omega,by go_num,rfl,HZ2⟩
  ·have HF:Hid (aB S may q=([],q1.fail 5 q.at')):=by
    show _=_
    rw[HQ.out,if_neg]
    rintro ⟨h1,h2⟩
    obtain⟨i,hi,he⟩:=List.getElem_of_mem h2
    exact HZ.out i (by omega) ⟨h1,by rw[List.getElem?_eq_getElem hi,he]⟩
   go_wp2_with fail
   refine(dP H1.out 5 _).mono ?_
   rintro e w2 ⟨rfl,h2,k2⟩
   have H2:=Lib.hid h2
   have K2:=Lib.hid (K1.out.trans k2)
   clear h2 k2
   go_wp2_with fail
   go_ret
   rw[HF.out]
   exact⟨rfl,H2.out,K2.out⟩
theorem iE{B b:Nat}{gy:List (Value×List Node)}{S:List UInt8}{q:RQ}{w:World}{vl:Value}(h:lF B b gy S q w vl)(s:ByteArray):
 Calls Tryz.prog 108 #[.pointer (some ⟨b,0,none⟩),.string s] w fun ed w'=>ed=.returned (.tuple #[])∧lF B b gy S (aB S [s.data.toList] q).2 w' vl∧Kp B [RT] w w':=by
 have H:=Lib.hid h
 clear h
 go_enter Tryz.func108,Tryz.ntmps108
 go_wp2_with fail
 refine(qC (H.out.keeps ((Keeps.refl _ _).alloc _)) [s.data.toList] _ (aP w 1 _ [s.data.toList] _ rfl rfl rfl (by simp))).mono ?_
 rintro e w1 ⟨rfl,h1,k1⟩
 have H1:=Lib.hid h1
 have K1:Hid (Kp B [RT] w w1):=((Kp.refl _ _ _).alloc _).trans k1
 clear h1 k1
 go_wp2_with fail
 go_end0
 exact⟨rfl,H1.out,K1.out⟩
theorem bC{S:List UInt8}{may:List (List UInt8)}{q:RQ}(h:q.e≠0):aB S may q=([],q):=by
 have h1:aV S 8 q=([],q):=by rw[aV,if_pos h]
 rw[aB,h1,if_neg (by exact fun e=>h e.1),RQ.fail,if_neg h]
theorem oW{S:List UInt8}{m:Nat}{q:RQ}(h:q.e≠0):aV S m q=([],q):=by rw[aV,if_pos h]
theorem RQ.fU{q:RQ}(h:q.e≠0)(e p:Int):q.fail e p=q:=by rw[RQ.fail,if_neg h]
theorem MF{m:Nat}{ρ:RS}{x:Int×Int}(h:fD m ρ=.error x):x.1≠0:=by
 unfold fD at h
 split at h
 ·cases h;show(2:Int)≠0;decide
 ·split at h
  ·cases h;show(3:Int)≠0;decide
  ·split at h
   ·cases h;show(2:Int)≠0;decide
   ·split at h
    ·cases h;show(4:Int)≠0;decide
    ·cases h
theorem Y4{S:List UInt8}{q:RQ}{k:Nat}(hk:q.at'+k≤S.length):(q.rs S).skip k=({q with at':=q.at'+k}:RQ).rs S:=by
 simp[RQ.rs,RS.skip,List.drop_drop]
theorem EJ{S:List UInt8}{m:Nat}{q:RQ}(h:q.e=0)(hat:q.at'≤S.length):(∃x,fD m (q.rs S)=.error x∧x.1≠0∧aV S m q=([],{q with e:=x.1,bad:=x.2}))∨(∃(s:List UInt8) (q':RQ),fD m (q.rs S)=.ok (s,q'.rs S)∧aV S m q=(s,q')∧q'.e=0∧q'.l=q.l∧q'.at'≤S.length∧q.at'≤q'.at'):=by
 cases hn:fD m (q.rs S) with
 |error x=>exact .inl ⟨x,rfl,MF hn,by rw[aV,if_neg (by simp[h]),hn]⟩
 |ok x=>
  obtain⟨s,ρ⟩:=x
  obtain⟨k,h1,h2,h3,-⟩:=wo hn
  simp only at h3
  have hlen:(q.rs S).rest.length=S.length-q.at':=by simp[RQ.rs]
  have hk:q.at'+k≤S.length:=by omega
  refine .inr ⟨s,{q with at':=q.at'+k},by rw[h3,Y4 hk],?_,h,rfl,hk,by simp⟩
  rw[aV,if_neg (by simp[h]),hn,h3]
  rfl
theorem wG{S:List UInt8}{may:List (List UInt8)}{q:RQ}(h:q.e=0)(hat:q.at'≤S.length):(∃(x:Int×Int) (q':RQ),bU may (q.rs S)=.error x∧x.1≠0∧aB S may q=([],q')∧q'.e=x.1∧q'.bad=x.2∧q'.l=q.l)∨(∃(s:List UInt8) (q':RQ),bU may (q.rs S)=.ok (s,q'.rs S)∧aB S may q=(s,q')∧q'.e=0∧q'.l=q.l∧q'.at'≤S.length∧s∈may∧q.at'≤q'.at'):=by
 rcases EJ (m:=8) h hat with⟨x,h1,h2,h3⟩|⟨s,q',h1,h2,h3,h4,h5,h6⟩
 ·refine .inl ⟨x,{q with e:=x.1,bad:=x.2},by rw[bU,h1];rfl,h2,?_,rfl,rfl,rfl⟩
  rw[aB,h3,if_neg (by exact fun e=>h2 e.1),RQ.fU (by exact h2)]
 ·by_cases hm:s∈may
  ·exact .inr ⟨s,q',by rw[bU,h1];exact if_pos hm,by rw[aB,h2,if_pos ⟨h3,hm⟩],h3,h4,h5,hm,h6⟩
  ·refine .inl ⟨(5,(q.at':Int)),{q' with e:=5,bad:=(q.at':Int)},by rw[bU,h1];exact if_neg hm,by show(5:Int)≠0;decide,?_,rfl,rfl,h4⟩
   rw[aB,h2,if_neg (by exact fun e=>hm e.2),lG _ _ h3]
def RQ.add(q:RQ)(n:Node):RQ:={q with l:=q.l++[n]}
def uU(S path:List UInt8)(q:RQ):RQ:=
 if (aB S [jP,gK] q).1=jP then
  (aB S [aX] ((aV S 100 (aB S [gK] (aB S [[]] (aB S [jP,gK] q).2).2).2).2.add ⟨path,2,(aV S 100 (aB S [gK] (aB S [[]] (aB S [jP,gK] q).2).2).2).1⟩)).2
 else (aB S [aX] ((aV S 100 (aB S [jP,gK] q).2).2.add ⟨path,1,(aV S 100 (aB S [jP,gK] q).2).1⟩)).2
def uV(S path:List UInt8)(q:RQ):RQ:=
 (aB S [aX] ((if aZ 3 (aV S 100 (aB S [Lr] q).2).1 then (aV S 100 (aB S [Lr] q).2).2 else (aV S 100 (aB S [Lr] q).2).2.fail 6 (aB S [Lr] q).2.at').add ⟨path,3,(aV S 100 (aB S [Lr] q).2).1⟩)).2
def su(S:List UInt8)(node:List UInt8→RQ→RQ)(path last:List UInt8)(q:RQ):List UInt8×RQ:=
 let q2:=(aB S [jQ] (aB S [gI] q).2).2
 let y:=aV S 48 q2
 let q4:=if nameB y.1 then y.2 else y.2.fail 6 q2.at'
 let q5:=if pY y.1 last then q4.fail 7 q2.at' else q4
 (y.1,(aB S [aX] (node (bg path y.1) (aB S [nS] q5).2)).2)
def jS(S:List UInt8)(node:List UInt8→RQ→RQ)(path:List UInt8):Nat→List UInt8→RQ→RQ
 |0,_,q=>q
 |f+1,last,q=>
  if (aB S [gX,aX] q).1=gX then jS S node path f (su S node path last (aB S [gX,aX] q).2).1 (su S node path last (aB S [gX,aX] q).2).2
  else (aB S [gX,aX] q).2
def lU(q:RQ)(at':Int):RQ:=if q.l.length=30 then q.fail 9 at' else q
def lH(S:List UInt8)(deep:Bool)(q:RQ):List UInt8×RQ:=
 aB S [fA,fB,jm] (aB S [nD] (lU (if deep then (aB S [gI] q).2.fail 8 q.at' else (aB S [gI] q).2) q.at')).2
def dV(S:List UInt8):Nat→List UInt8→RQ→RQ
 |0,_,q=>(lH S true q).2
 |d+1,path,q=>
  if (lH S false q).1=fA then uU S path (lH S false q).2
  else if (lH S false q).1=fB then uV S path (lH S false q).2
  else if (lH S false q).1=jm then jS S (dV S d) path (S.length+1) [] ((lH S false q).2.add ⟨path,4,[]⟩)
  else (lH S false q).2
theorem tV{q:RQ}(h:q.e≠0)(p:Int):lU q p=q:=by unfold lU;rw[RQ.fU h,ite_self]
theorem Ik{S:List UInt8}{deep:Bool}{q:RQ}(h:q.e≠0):lH S deep q=([],q):=by
 unfold lH
 rw[bC h,RQ.fU h,ite_self,tV h,bC h,bC h]
theorem kQ:([]:List UInt8)≠fA∧([]:List UInt8)≠fB∧([]:List UInt8)≠jm∧([]:List UInt8)≠jP∧([]:List UInt8)≠gX:=by decide
theorem oZ{S:List UInt8}{q:RQ}(h:q.e≠0):∀(d:Nat) (path:List UInt8),dV S d path q=q
 |0,path=>by rw[dV,Ik h]
 |d+1,path=>by rw[dV,Ik h,if_neg kQ.1,if_neg kQ.2.1,if_neg kQ.2.2.1]
theorem qE{S:List UInt8}{node:List UInt8→RQ→RQ}{path:List UInt8}{q:RQ}(h:q.e≠0):∀(f:Nat) (last:List UInt8),jS S node path f last q=q
 |0,_=>rfl
 |f+1,last=>by rw[jS,bC h,if_neg kQ.2.2.2.2]
def Wp(q q':RQ):Prop:=q'.e=q.e∧q'.bad=q.bad
def QE(S:List UInt8)(r:RE RS)(q:RQ):Prop:=
 match r with
 | .error x=>q.e=x.1∧q.bad=x.2∧x.1≠0
 | .ok ρ=>q.e=0∧q.rs S=ρ∧q.at'≤S.length
theorem QE.error{S:List UInt8}{x:Int×Int}{q q':RQ}(h:Wp q q')(h1:q.e=x.1)(h2:q.bad=x.2)(h3:x.1≠0):QE S (.error x) q':=⟨h.1.trans h1,h.2.trans h2,h3⟩
theorem jI{S:List UInt8}{may:List (List UInt8)}{q:RQ}{f:List UInt8×RS→RE RS}{g:List UInt8×RQ→RQ}(he:q.e=0)(hat:q.at'≤S.length)
 (herr:∀q',q'.e≠0→Wp q' (g ([],q'))) (hok:∀s q',q'.e=0→q'.l=q.l→q'.at'≤S.length→s∈may→q.at'≤q'.at'→QE S (f (s,q'.rs S)) (g (s,q'))):QE S ((bU may (q.rs S)).bind f) (g (aB S may q)):=by
 rcases wG he hat with⟨x,q',h1,h2,h3,h4,h5,h6⟩|⟨s,q',h1,h2,h3,h4,h5,h6,h7⟩
 ·rw[h1,h3]
  exact QE.error (herr q' (by rw[h4];exact h2)) h4 h5 h2
 ·rw[h1,h2]
  exact hok s q' h3 h4 h5 h6 h7
theorem zG{S:List UInt8}{m:Nat}{q:RQ}{f:List UInt8×RS→RE RS}{g:List UInt8×RQ→RQ}(he:q.e=0)(hat:q.at'≤S.length)
 (herr:∀q',q'.e≠0→Wp q' (g ([],q'))) (hok:∀s q',q'.e=0→q'.l=q.l→q'.at'≤S.length→q.at'≤q'.at'→QE S (f (s,q'.rs S)) (g (s,q'))):QE S ((fD m (q.rs S)).bind f) (g (aV S m q)):=by
 rcases EJ (m:=m) he hat with⟨x,h1,h2,h3⟩|⟨s,q',h1,h2,h3,h4,h5,h6⟩
 ·rw[h1,h3]
  exact QE.error (herr _ (by exact h2)) rfl rfl h2
 ·rw[h1,h2]
  exact hok s q' h3 h4 h5 h6
theorem EK{S:List UInt8}{may:List (List UInt8)}{q:RQ}(he:q.e=0)(hat:q.at'≤S.length):QE S ((bU may (q.rs S)).bind fun x=>.ok x.2) (aB S may q).2:=
 jI (g:=Prod.snd) he hat (fun q' _=>⟨rfl,rfl⟩) (fun s q' h1 h2 h3 _ _=>⟨h1,rfl,h3⟩)
theorem O7{S path:List UInt8}{q:RQ}(he:q.e=0)(hat:q.at'≤S.length):QE S (Ef path (q.rs S)) (uU S path q):=by
 unfold Ef uU
 refine jI (g:=fun z=>if z.1=jP then
  (aB S [aX] ((aV S 100 (aB S [gK] (aB S [[]] z.2).2).2).2.add ⟨path,2,(aV S 100 (aB S [gK] (aB S [[]] z.2).2).2).1⟩)).2
 else (aB S [aX] ((aV S 100 z.2).2.add ⟨path,1,(aV S 100 z.2).1⟩)).2) he hat (fun q' hq'=>?_) (fun s q' h1 h2 h3 _ _=>?_)
 ·rw[if_neg kQ.2.2.2.1,oW hq',bC (by exact hq')]
  exact⟨rfl,rfl⟩
 ·simp only
  split
  ·refine jI (g:=fun z=>(aB S [aX] ((aV S 100 (aB S [gK] z.2).2).2.add ⟨path,2,(aV S 100 (aB S [gK] z.2).2).1⟩)).2) h1 h3 (fun q' hq'=>?_) (fun s q' h1 h2 h3 _ _=>?_)
   ·rw[bC hq',oW hq',bC (by exact hq')]
    exact⟨rfl,rfl⟩
   ·refine jI (g:=fun z=>(aB S [aX] ((aV S 100 z.2).2.add ⟨path,2,(aV S 100 z.2).1⟩)).2) h1 h3 (fun q' hq'=>?_) (fun s q' h1 h2 h3 _ _=>?_)
    ·rw[oW hq',bC (by exact hq')]
     exact⟨rfl,rfl⟩
    ·refine zG (g:=fun z=>(aB S [aX] (z.2.add ⟨path,2,z.1⟩)).2) h1 h3 (fun q' hq'=>?_) (fun s q' h1 h2 h3 _=>?_)
     ·rw[bC (by exact hq')]
      exact⟨rfl,rfl⟩
     ·exact EK (q:=q'.add ⟨path,2,s⟩) h1 h3
  ·refine zG (g:=fun z=>(aB S [aX] (z.2.add ⟨path,1,z.1⟩)).2) h1 h3 (fun q' hq'=>?_) (fun s q' h1 h2 h3 _=>?_)
   ·rw[bC (by exact hq')]
    exact⟨rfl,rfl⟩
   ·exact EK (q:=q'.add ⟨path,1,s⟩) h1 h3
theorem O8{S path:List UInt8}{q:RQ}(he:q.e=0)(hat:q.at'≤S.length):QE S (Eh path (q.rs S)) (uV S path q):=by
 unfold Eh uV
 refine jI (g:=fun y=>(aB S [aX] ((if aZ 3 (aV S 100 y.2).1 then (aV S 100 y.2).2 else (aV S 100 y.2).2.fail 6 y.2.at').add ⟨path,3,(aV S 100 y.2).1⟩)).2) he hat (fun q' hq'=>?_) (fun s q' h1 h2 h3 _ _=>?_)
 ·simp only
  rw[oW hq',RQ.fU hq',ite_self,bC (by exact hq')]
  exact⟨rfl,rfl⟩
 ·refine zG (g:=fun z=>(aB S [aX] ((if aZ 3 z.1 then z.2 else z.2.fail 6 q'.at').add ⟨path,3,z.1⟩)).2) h1 h3 (fun q'' hq'=>?_) (fun t q'' g1 g2 g3 _=>?_)
  ·simp only
   rw[RQ.fU hq',ite_self,bC (by exact hq')]
   exact⟨rfl,rfl⟩
  ·simp only
   by_cases hd:aZ 3 t=true
   ·rw[if_pos hd,if_pos hd]
    exact EK (q:=q''.add ⟨path,3,t⟩) g1 g3
   ·rw[if_neg hd,if_neg hd,lG _ _ g1]
    rw[bC (by show(6:Int)≠0;decide)]
    exact⟨rfl,rfl,by show(6:Int)≠0;decide⟩
theorem EL{d:Nat}{path:List UInt8}:∀(f g:Nat) (last:List UInt8) (ρ:RS),ρ.rest.length<f→ρ.rest.length<g→pX (jo d) path f last ρ=pX (jo d) path g last ρ
 |0,_,_,_,h,_=>absurd h (by omega)
 |_,0,_,_,_,h=>absurd h (by omega)
 |f+1,g+1,last,ρ,hf,hg=>by
  unfold pX
  cases h1:bU [gX,aX] ρ with
  |error e=>rfl
  |ok x=>
   have l1:=bn h1
   simp only[Except.bind]
   split
   ·rfl
   ·cases h2:bU [gI] x.2 with
    |error e=>rfl
    |ok y=>
     have l2:=bn h2
     simp only
     cases h3:bU [jQ] y.2 with
     |error e=>rfl
     |ok z=>
      have l3:=bn h3
      simp only
      cases h4:fD 48 z.2 with
      |error e=>rfl
      |ok u=>
       have l4:=jq h4
       simp only
       split
       ·rfl
       ·split
        ·rfl
        ·cases h5:bU [nS] u.2 with
         |error e=>rfl
         |ok v=>
          have l5:=bn h5
          simp only
          cases h6:jo d (bg path u.1) v.2 with
          |error e=>rfl
          |ok ρ2=>
           have l6:=tC _ _ _ _ h6
           simp only
           cases h7:bU [aX] ρ2 with
           |error e=>rfl
           |ok v2=>
            have l7:=bn h7
            simp only
            exact EL f g _ _ (by omega) (by omega)
def MG(S:List UInt8)(d:Nat):Prop:=∀(path:List UInt8) (q:RQ),q.e=0→q.at'≤S.length→QE S (jo d path (q.rs S)) (dV S d path q)
theorem EM{S:List UInt8}{d:Nat}(hN:MG S d)(path:List UInt8):∀(f:Nat) (last:List UInt8) (q:RQ),q.e=0→q.at'≤S.length→(q.rs S).rest.length<f→QE S (pX (jo d) path f last (q.rs S)) (jS S (dV S d) path f last q)
 |0,_,_,_,_,h=>absurd h (by omega)
 |f+1,last,q,he,hat,hf=>by
  unfold pX
  rw[jS]
  cases hw:bU [gX,aX] (q.rs S) with
  |error x=>
   rcases wG (may:=[gX,aX]) he hat with⟨x',q',h1,h2,h3,h4,h5,h6⟩|⟨s,q',h1,_⟩
   ·rw[hw] at h1
    cases h1
    rw[h3,if_neg kQ.2.2.2.2]
    exact⟨h4,h5,h2⟩
   ·rw[hw] at h1;cases h1
  |ok x=>
   have hle:=bn hw
   rcases wG (may:=[gX,aX]) he hat with⟨x',q',h1,_⟩|⟨s,q',h1,h2,h3,h4,h5,h6,h7⟩
   ·rw[hw] at h1;cases h1
   rw[hw] at h1
   cases h1
   rw[h2]
   simp only[Except.bind]
   by_cases hs:s=aX
   ·rw[if_pos hs,if_neg (by rw[hs];decide)]
    exact⟨h3,rfl,h5⟩
   ·have hse:s=gX:=by
     simp only[List.mem_cons,List.not_mem_nil,or_false] at h6
     exact h6.resolve_right hs
    rw[if_neg hs,if_pos hse]
    have hgo:∀(x:Int×Int) (q'':RQ) (p:List UInt8),q''.e≠0→q''.e=x.1→q''.bad=x.2→QE S (.error x) (jS S (dV S d) path f p q''):=fun x q'' p e1 e2 e3=>by
     rw[qE e1];exact⟨e2,e3,by rw[←e2];exact e1⟩
    refine jI (g:=fun z=>jS S (dV S d) path f (aV S 48 (aB S [jQ] z.2).2).1 ((aB S [aX] (dV S d (bg path (aV S 48 (aB S [jQ] z.2).2).1) (aB S [nS] (if pY (aV S 48 (aB S [jQ] z.2).2).1 last then (if nameB (aV S 48 (aB S [jQ] z.2).2).1 then (aV S 48 (aB S [jQ] z.2).2).2 else (aV S 48 (aB S [jQ] z.2).2).2.fail 6 (aB S [jQ] z.2).2.at').fail 7 (aB S [jQ] z.2).2.at' else (if nameB (aV S 48 (aB S [jQ] z.2).2).1 then (aV S 48 (aB S [jQ] z.2).2).2 else (aV S 48 (aB S [jQ] z.2).2).2.fail 6 (aB S [jQ] z.2).2.at'))).2)).2)) h3 h5 (fun q2 e2=>?_) (fun s2 q2 e2 l2 a2 _ m2=>?_)
    ·simp only[bC e2,oW e2,RQ.fU e2,ite_self,oZ e2,qE e2]
     exact⟨rfl,rfl⟩
    refine jI (g:=fun z=>jS S (dV S d) path f (aV S 48 z.2).1 ((aB S [aX] (dV S d (bg path (aV S 48 z.2).1) (aB S [nS] (if pY (aV S 48 z.2).1 last then (if nameB (aV S 48 z.2).1 then (aV S 48 z.2).2 else (aV S 48 z.2).2.fail 6 z.2.at').fail 7 z.2.at' else (if nameB (aV S 48 z.2).1 then (aV S 48 z.2).2 else (aV S 48 z.2).2.fail 6 z.2.at'))).2)).2)) e2 a2 (fun q3 e3=>?_) (fun s3 q3 e3 l3 a3 _ m3=>?_)
    ·simp only[bC e3,oW e3,RQ.fU e3,ite_self,oZ e3,qE e3]
     exact⟨rfl,rfl⟩
    refine zG (g:=fun z=>jS S (dV S d) path f z.1 ((aB S [aX] (dV S d (bg path z.1) (aB S [nS] (if pY z.1 last then (if nameB z.1 then z.2 else z.2.fail 6 q3.at').fail 7 q3.at' else (if nameB z.1 then z.2 else z.2.fail 6 q3.at'))).2)).2)) e3 a3 (fun q4 e4=>?_) (fun s4 q4 e4 l4 a4 m4=>?_)
    ·simp only[bC e4,RQ.fU e4,ite_self,oZ e4,qE e4]
     exact⟨rfl,rfl⟩
    simp only
    by_cases hnm:nameB s4=true
    ·by_cases hls:pY s4 last=true
     ·simp only[hnm,hls,if_true,Bool.true_eq_false,if_false]
      rw[lG _ _ e4]
      have h7e:({q4 with e:=7,bad:=(q3.at':Int)}:RQ).e≠0:=by show(7:Int)≠0;decide
      rw[bC h7e,oZ h7e,bC h7e]
      exact hgo _ _ _ h7e rfl rfl
     ·simp only[hnm,if_neg hls,if_true,Bool.true_eq_false,if_false]
      refine jI (g:=fun z=>jS S (dV S d) path f s4 ((aB S [aX] (dV S d (bg path s4) z.2)).2)) e4 a4 (fun q5 e5=>?_) (fun s5 q5 e5 l5 a5 _ m5=>?_)
      ·simp only[bC e5,oZ e5,qE e5]
       exact⟨rfl,rfl⟩
      ·simp only
       have hr:=hN (bg path s4) q5 e5 a5
       cases hn:jo d (bg path s4) (q5.rs S) with
       |error x=>
        rw[hn] at hr
        obtain⟨r1,r2,r3⟩:=hr
        have ZR:(dV S d (bg path s4) q5).e≠0:=by rw[r1];exact r3
        rw[bC ZR]
        exact hgo _ _ _ ZR r1 r2
       |ok ρ=>
        rw[hn] at hr
        obtain⟨r1,r2,r3⟩:=hr
        have hle2:=tC d _ _ _ hn
        rw[←r2] at hle2 ⊢
        generalize dV S d (bg path s4) q5=q6 at *
        refine jI (f:=fun z=>pX (jo d) path f s4 z.2) (g:=fun z=>jS S (dV S d) path f s4 z.2) r1 r3 (fun q7 e7=>?_) (fun s7 q7 e7 l7 a7 _ m7=>?_)
        ·simp only[qE e7]
         exact⟨rfl,rfl⟩
        ·refine EM hN path f s4 q7 e7 a7 ?_
         have hlen:∀q:RQ,(q.rs S).rest.length=S.length-q.at':=fun q=>by simp[RQ.rs]
         rw[hlen] at hf hle2 ⊢
         rw[hlen] at hle2
         rw[hlen,hlen] at hle
         omega
    ·have Gp:nameB s4=false:=by simpa using hnm
     simp only[Gp,if_true,Bool.false_eq_true,if_false]
     rw[lG _ _ e4]
     have ZR:({q4 with e:=6,bad:=(q3.at':Int)}:RQ).e≠0:=by show(6:Int)≠0;decide
     rw[RQ.fU ZR,ite_self,bC ZR,oZ ZR,bC ZR]
     exact hgo _ _ _ ZR rfl rfl
theorem EN(S:List UInt8):∀d:Nat,MG S d
 |0=>by
  intro path q he hat
  unfold jo
  rw[dV]
  unfold lH
  simp only[if_true]
  refine jI (g:=fun z=>(aB S [fA,fB,jm] (aB S [nD] (lU (z.2.fail 8 q.at') q.at')).2).2) he hat (fun q1 e1=>?_) (fun s1 q1 e1 l1 a1 _ m1=>?_)
  ·simp only[RQ.fU e1,tV e1,bC e1]
   exact⟨rfl,rfl⟩
  ·simp only
   rw[lG _ _ e1]
   have h8e:({q1 with e:=8,bad:=(q.at':Int)}:RQ).e≠0:=by show(8:Int)≠0;decide
   rw[tV h8e,bC h8e,bC h8e]
   exact⟨rfl,rfl,by show(8:Int)≠0;decide⟩
 |d+1=>by
  intro path q he hat
  have ih:=EN S d
  unfold jo
  rw[dV]
  unfold lH
  simp only[Bool.false_eq_true,if_false]
  refine jI (g:=fun z=>if (aB S [fA,fB,jm] (aB S [nD] (lU z.2 q.at')).2).1=fA then uU S path (aB S [fA,fB,jm] (aB S [nD] (lU z.2 q.at')).2).2
   else if (aB S [fA,fB,jm] (aB S [nD] (lU z.2 q.at')).2).1=fB then uV S path (aB S [fA,fB,jm] (aB S [nD] (lU z.2 q.at')).2).2
   else if (aB S [fA,fB,jm] (aB S [nD] (lU z.2 q.at')).2).1=jm then jS S (dV S d) path (S.length+1) [] ((aB S [fA,fB,jm] (aB S [nD] (lU z.2 q.at')).2).2.add ⟨path,4,[]⟩)
   else (aB S [fA,fB,jm] (aB S [nD] (lU z.2 q.at')).2).2) he hat (fun q1 e1=>?_) (fun s1 q1 e1 l1 a1 _ m1=>?_)
  ·simp only[tV e1,bC e1]
   rw[if_neg kQ.1,if_neg kQ.2.1,if_neg kQ.2.2.1]
   exact⟨rfl,rfl⟩
  ·simp only
   by_cases h30:q1.l.length=30
   ·rw[if_pos (by exact h30),lU,if_pos h30,lG _ _ e1]
    have h9e:({q1 with e:=9,bad:=(q.at':Int)}:RQ).e≠0:=by show(9:Int)≠0;decide
    rw[bC h9e,bC h9e,if_neg kQ.1,if_neg kQ.2.1,if_neg kQ.2.2.1]
    exact⟨rfl,rfl,by show(9:Int)≠0;decide⟩
   ·rw[if_neg (by exact h30),lU,if_neg h30]
    refine jI (g:=fun z=>if (aB S [fA,fB,jm] z.2).1=fA then uU S path (aB S [fA,fB,jm] z.2).2
     else if (aB S [fA,fB,jm] z.2).1=fB then uV S path (aB S [fA,fB,jm] z.2).2
     else if (aB S [fA,fB,jm] z.2).1=jm then jS S (dV S d) path (S.length+1) [] ((aB S [fA,fB,jm] z.2).2.add ⟨path,4,[]⟩)
     else (aB S [fA,fB,jm] z.2).2) e1 a1 (fun q2 e2=>?_) (fun s2 q2 e2 l2 a2 _ m2=>?_)
    ·simp only[bC e2]
     rw[if_neg kQ.1,if_neg kQ.2.1,if_neg kQ.2.2.1]
     exact⟨rfl,rfl⟩
    ·refine jI (g:=fun z=>if z.1=fA then uU S path z.2 else if z.1=fB then uV S path z.2 else if z.1=jm then jS S (dV S d) path (S.length+1) [] (z.2.add ⟨path,4,[]⟩) else z.2) e2 a2 (fun q3 e3=>?_) (fun s3 q3 e3 l3 a3 hmem m3=>?_)
     ·simp only
      rw[if_neg kQ.1,if_neg kQ.2.1,if_neg kQ.2.2.1]
      exact⟨rfl,rfl⟩
     ·simp only
      by_cases h1:s3=fA
      ·rw[if_pos h1,if_pos h1];exact O7 e3 a3
      ·rw[if_neg h1,if_neg h1]
       by_cases h2:s3=fB
       ·rw[if_pos h2,if_pos h2];exact O8 e3 a3
       ·have h3:s3=jm:=by
         simp only[List.mem_cons,List.not_mem_nil,or_false] at hmem
         rcases hmem with h|h|h
         ·exact absurd h h1
         ·exact absurd h h2
         ·exact h
        rw[if_neg h2,if_neg h2,if_pos h3]
        have hfu:∀f:Nat,(q3.rs S).rest.length<f→pX (jo d) path f [] ((q3.rs S).add ⟨path,4,[]⟩)=pX (jo d) path ((q3.rs S).rest.length+1) [] ((q3.rs S).add ⟨path,4,[]⟩):=fun f hf=>EL _ _ _ _ hf (by simp only[RS.add];omega)
        rw[←hfu (S.length+1) (by simp[RQ.rs];omega)]
        exact EM ih path (S.length+1) [] (q3.add ⟨path,4,[]⟩) e3 a3 (by simp[RQ.rs,RQ.add];omega)
end Go.Proofs.YtdkogijdfgfpeaaGreatDoor

/- narref.Name; names are alike. -/
import Derived.Test.YtdkogijdfgfpeaaGreatDoorZRefA
set_option linter.unusedVariables false
set_option maxHeartbeats 4000000
set_option maxRecDepth 100000
namespace Go.Proofs.YtdkogijdfgfpeaaGreatDoor
open Go Go.RowKit
theorem Gx(s:ByteArray)(w:World)(hs:s.size≤4611686018427387904):
 Calls Tryz.prog 151 #[.string s] w fun e w'=>e=.returned (.bool (je s.data.toList))∧Keeps Non w w':=by
 cases hl:lettersOf s.data.toList 0 with
 |none=>
  have HF:Hid (je s.data.toList=false):=by show _=_;unfold je;rw[hl]
  have HL:=Lib.hid hl
  clear hl
  go_enter Tryz.func151,Tryz.ntmps151
  go_wp2_with fail
  refine(nM s w hs).mono ?_
  rintro e w1 ⟨rfl,hk⟩
  have HK:=Lib.hid hk
  clear hk
  rw[HL.out]
  unfold Dt
  go_wp2_with fail
  go_ret
  exact⟨aF HF.out.symm,HK.out⟩
 |some n=>
  have HF:Hid (je s.data.toList=(decide (1≤n)&&decide (n≤12)&&s.data.toList !=[46]&&s.data.toList !=[46,46])):=by show _=_;unfold je;rw[hl]
  have HL:=Lib.hid hl
  clear hl
  have hV:Hid (Dt (some n)=.tuple #[.int .i64 n,.bool true]):=rfl
  by_cases h1:1≤n
  ·have d1:decide ((1:Int)≤(n:Int))=true:=by simp;omega
   by_cases h2:n≤12
   ·have d2:decide ((n:Int)≤(12:Int))=true:=by simp;omega
    by_cases h3:s.data.toList=[46]
    ·have d3:(!s.toList==[46])=false:=by rw[ByteArray.toList_eq,h3];rfl
     have HG:Hid (je s.data.toList=false):=by show _=_;rw[HF.out,h3];simp
     clear h3
     go_enter Tryz.func151,Tryz.ntmps151
     go_wp2_with fail
     refine(nM s w hs).mono ?_
     rintro e w1 ⟨rfl,hk⟩
     have HK:=Lib.hid hk
     clear hk
     rw[HL.out,hV.out]
     go_wp2_with fail
     go_ret
     exact⟨aF HG.out.symm,HK.out⟩
    ·have d3:(!s.toList==[46])=true:=by rw[ByteArray.toList_eq];simpa using h3
     have HG:Hid (je s.data.toList=(!s.toList==[46,46])):=by
      show _=_
      rw[HF.out,decide_eq_true h1,decide_eq_true h2,ByteArray.toList_eq,bne,bne,beq_eq_false_iff_ne.2 h3]
      rfl
     clear h3
     go_enter Tryz.func151,Tryz.ntmps151
     go_wp2_with fail
     refine(nM s w hs).mono ?_
     rintro e w1 ⟨rfl,hk⟩
     have HK:=Lib.hid hk
     clear hk
     rw[HL.out,hV.out]
     go_wp2_with fail
     go_ret
     exact⟨aF HG.out.symm,HK.out⟩
   ·have d2:decide ((n:Int)≤(12:Int))=false:=by simp;omega
    have HG:Hid (je s.data.toList=false):=by show _=_;rw[HF.out,decide_eq_false h2];simp
    go_enter Tryz.func151,Tryz.ntmps151
    go_wp2_with fail
    refine(nM s w hs).mono ?_
    rintro e w1 ⟨rfl,hk⟩
    have HK:=Lib.hid hk
    clear hk
    rw[HL.out,hV.out]
    go_wp2_with fail
    go_ret
    exact⟨aF HG.out.symm,HK.out⟩
  ·have d1:decide ((1:Int)≤(n:Int))=false:=by simp;omega
   have HG:Hid (je s.data.toList=false):=by show _=_;rw[HF.out,decide_eq_false h1];simp
   go_enter Tryz.func151,Tryz.ntmps151
   go_wp2_with fail
   refine(nM s w hs).mono ?_
   rintro e w1 ⟨rfl,hk⟩
   have HK:=Lib.hid hk
   clear hk
   rw[HL.out,hV.out]
   go_wp2_with fail
   go_ret
   exact⟨aF HG.out.symm,HK.out⟩
theorem NY(x:UInt8)(m c:Nat)(r:List UInt8):dS (m+1) (x :: r) c=if x.toNat / 64=2 then dS m r (64*c+x.toNat % 64) else none:=by
 have:=UInt8.toNat_lt x
 show(if _ then _ else _)=_
 by_cases h:x.toNat / 64=2
 ·rw[if_neg (by omega),if_pos h]
 ·rw[if_pos (by omega),if_neg h]
theorem Zx(r:List UInt8)(c:Nat):dS 1 r c=if 1<r.length+1∧(r.getD 0 0).toNat / 64=2 then some (64*c+(r.getD 0 0).toNat % 64) else none:=by
 cases r with
 |nil=>simp[dS]
 |cons x r=>rw[NY];simp[dS]
theorem Zy(r:List UInt8)(c:Nat):dS 2 r c=if (1<r.length+1∧(r.getD 0 0).toNat / 64=2)∧(2<r.length+1∧(r.getD 1 0).toNat / 64=2) then some (64*(64*c+(r.getD 0 0).toNat % 64)+(r.getD 1 0).toNat % 64) else none:=by
 cases r with
 |nil=>simp[dS]
 |cons x r=>
  rw[NY,Zx]
  by_cases h:x.toNat / 64=2
  ·simp[h]
  ·simp[h]
theorem acC(r:List UInt8)(c:Nat):dS 3 r c=if (1<r.length+1∧(r.getD 0 0).toNat / 64=2)∧(2<r.length+1∧(r.getD 1 0).toNat / 64=2)∧(3<r.length+1∧(r.getD 2 0).toNat / 64=2) then some (64*(64*(64*c+(r.getD 0 0).toNat % 64)+(r.getD 1 0).toNat % 64)+(r.getD 2 0).toNat % 64) else none:=by
 cases r with
 |nil=>simp[dS]
 |cons x r=>
  rw[NY,Zy]
  have e:(3<r.length+1+1)=(2<r.length+1):=propext ⟨fun h=>by omega,fun h=>by omega⟩
  by_cases h:x.toNat / 64=2
  ·simp[h,e]
  ·simp[h]
def Ag(n b0 b1 b2 b3:Nat):Option Nat:=
 match jg b0 with
 |none=>none
 |some (0,_)=>some 1
 |some (1,_)=>if 1<n∧b1 / 64=2 then some 2 else none
 |some (2,c)=>if (1<n∧b1 / 64=2)∧(2<n∧b2 / 64=2) then (if pF 2 (64*(64*c+b1 % 64)+b2 % 64) then none else some 3) else none
 |some (_,c)=>if (1<n∧b1 / 64=2)∧(2<n∧b2 / 64=2)∧(3<n∧b3 / 64=2) then (if pF 3 (64*(64*(64*c+b1 % 64)+b2 % 64)+b3 % 64) then none else some 4) else none
theorem UK{b m c:Nat}(h:jg b=some (m,c)):m≤3:=by
 unfold jg at h
 repeat' split at h
 all_goals (cases h;try omega)
theorem UL(b:UInt8)(r:List UInt8):letter (b :: r)=Ag (r.length+1) b.toNat (r.getD 0 0).toNat (r.getD 1 0).toNat (r.getD 2 0).toNat:=by
 unfold Ag
 cases h:jg b.toNat with
 |none=>exact qJ h
 |some mc=>
  obtain⟨m,c⟩:=mc
  have hm:=UK h
  unfold letter
  simp only[h]
  match m,hm with
  |0,_=>rfl
  |1,_=>
   rw[Zx]
   show _=if 1<r.length+1∧(r.getD 0 0).toNat / 64=2 then some 2 else none
   by_cases hc:1<r.length+1∧(r.getD 0 0).toNat / 64=2
   ·rw[if_pos hc,if_pos hc];rfl
   ·rw[if_neg hc,if_neg hc]
  |2,_=>
   rw[Zy]
   show _=if (1<r.length+1∧(r.getD 0 0).toNat / 64=2)∧(2<r.length+1∧(r.getD 1 0).toNat / 64=2) then _ else none
   by_cases hc:(1<r.length+1∧(r.getD 0 0).toNat / 64=2)∧(2<r.length+1∧(r.getD 1 0).toNat / 64=2)
   ·rw[if_pos hc,if_pos hc]
   ·rw[if_neg hc,if_neg hc]
  |3,_=>
   rw[acC]
   show _=if (1<r.length+1∧(r.getD 0 0).toNat / 64=2)∧(2<r.length+1∧(r.getD 1 0).toNat / 64=2)∧(3<r.length+1∧(r.getD 2 0).toNat / 64=2) then _ else none
   by_cases hc:(1<r.length+1∧(r.getD 0 0).toNat / 64=2)∧(2<r.length+1∧(r.getD 1 0).toNat / 64=2)∧(3<r.length+1∧(r.getD 2 0).toNat / 64=2)
   ·rw[if_pos hc,if_pos hc]
   ·rw[if_neg hc,if_neg hc]
theorem UM(r:Nat):badR r=true↔r<32∨r=47∨r=127:=by
 unfold badR;simp[or_assoc]
theorem J5(n b0 b1 b2 b3:Nat)(h0:b0<256):
 Ag n b0 b1 b2 b3=if ((Lib.decodeN n b0 b1 b2 b3).1=65533∧(Lib.decodeN n b0 b1 b2 b3).2=1)∨((Lib.decodeN n b0 b1 b2 b3).1<32∨(Lib.decodeN n b0 b1 b2 b3).1=47∨(Lib.decodeN n b0 b1 b2 b3).1=127) then none else some (Lib.decodeN n b0 b1 b2 b3).2:=by
 have acD:∀c,pF 2 c=decide (c<2048∨(55296≤c∧c<57344)):=fun c=>by unfold pF;simp
 have acE:∀c,pF 3 c=decide (c<65536∨1114111<c):=fun c=>by unfold pF;simp
 by_cases ha:b0<128
 ·have hd:Lib.decodeN n b0 b1 b2 b3=(b0,1):=by unfold Lib.decodeN;rw[if_pos ha]
  rw[hd]
  by_cases hbad:b0<32∨b0=47∨b0=127
  ·rw[if_pos (.inr hbad)]
   unfold Ag jg
   rw[if_pos hbad]
  ·rw[if_neg (by simp only;omega)]
   unfold Ag jg
   rw[if_neg hbad,if_pos ha]
   rfl
 ·have hbad:¬(b0<32∨b0=47∨b0=127):=by omega
  by_cases h2:194≤b0∧b0<224
  ·have hl:Ag n b0 b1 b2 b3=if 1<n∧b1 / 64=2 then some 2 else none:=by unfold Ag jg;rw[if_neg hbad,if_neg ha,if_pos h2];rfl
   rw[hl]
   by_cases hc:1<n∧b1 / 64=2
   ·have hd:Lib.decodeN n b0 b1 b2 b3=(b0 % 32*64+b1 % 64,2):=by
     unfold Lib.decodeN
     rw[if_neg ha,if_pos ⟨by omega,hc⟩,if_pos (by omega)]
    rw[hd,if_pos hc,if_neg (by simp only;omega)]
   ·have hd:Lib.decodeN n b0 b1 b2 b3=(65533,1):=by
     unfold Lib.decodeN
     rw[if_neg ha,if_neg (fun h=>hc h.2),if_neg (by omega),if_neg (by omega)]
    rw[hd,if_neg hc];rfl
  ·by_cases h3:224≤b0∧b0<240
   ·have hl:Ag n b0 b1 b2 b3=if (1<n∧b1 / 64=2)∧(2<n∧b2 / 64=2) then (if pF 2 (64*(64*(b0 % 16)+b1 % 64)+b2 % 64) then none else some 3) else none:=by unfold Ag jg;rw[if_neg hbad,if_neg ha,if_neg h2,if_pos h3];rfl
    rw[hl,acD]
    by_cases hc:(1<n∧b1 / 64=2)∧(2<n∧b2 / 64=2)
    ·by_cases hv:b0 % 16*4096+b1 % 64*64+b2 % 64≥2048∧(b0 % 16*4096+b1 % 64*64+b2 % 64<55296∨(57344≤b0 % 16*4096+b1 % 64*64+b2 % 64∧b0 % 16*4096+b1 % 64*64+b2 % 64≤1114111))
     ·have hd:Lib.decodeN n b0 b1 b2 b3=(b0 % 16*4096+b1 % 64*64+b2 % 64,3):=by
       unfold Lib.decodeN
       rw[if_neg ha,if_neg (by omega),if_pos ⟨by omega,hc⟩,if_pos hv]
      rw[hd,if_pos hc,decide_eq_false (by omega),if_neg Bool.false_ne_true,if_neg (by simp only;omega)]
     ·have hd:Lib.decodeN n b0 b1 b2 b3=(65533,1):=by
       unfold Lib.decodeN
       rw[if_neg ha,if_neg (by omega),if_pos ⟨by omega,hc⟩,if_neg hv]
      rw[hd,if_pos hc,decide_eq_true (by omega)]
      rfl
    ·have hd:Lib.decodeN n b0 b1 b2 b3=(65533,1):=by
      unfold Lib.decodeN
      rw[if_neg ha,if_neg (by omega),if_neg (fun h=>hc h.2),if_neg (by omega)]
     rw[hd,if_neg hc];rfl
   ·by_cases h4:240≤b0∧b0<245
    ·have hl:Ag n b0 b1 b2 b3=if (1<n∧b1 / 64=2)∧(2<n∧b2 / 64=2)∧(3<n∧b3 / 64=2) then (if pF 3 (64*(64*(64*(b0 % 8)+b1 % 64)+b2 % 64)+b3 % 64) then none else some 4) else none:=by unfold Ag jg;rw[if_neg hbad,if_neg ha,if_neg h2,if_neg h3,if_pos h4];rfl
     rw[hl,acE]
     by_cases hc:(1<n∧b1 / 64=2)∧(2<n∧b2 / 64=2)∧(3<n∧b3 / 64=2)
     ·by_cases hv:b0 % 8*262144+b1 % 64*4096+b2 % 64*64+b3 % 64≥65536∧(b0 % 8*262144+b1 % 64*4096+b2 % 64*64+b3 % 64<55296∨(57344≤b0 % 8*262144+b1 % 64*4096+b2 % 64*64+b3 % 64∧b0 % 8*262144+b1 % 64*4096+b2 % 64*64+b3 % 64≤1114111))
      ·have hd:Lib.decodeN n b0 b1 b2 b3=(b0 % 8*262144+b1 % 64*4096+b2 % 64*64+b3 % 64,4):=by
        unfold Lib.decodeN
        rw[if_neg ha,if_neg (by omega),if_neg (by omega),if_pos ⟨by omega,hc⟩,if_pos hv]
       rw[hd,if_pos hc,decide_eq_false (by omega),if_neg Bool.false_ne_true,if_neg (by simp only;omega)]
      ·have hd:Lib.decodeN n b0 b1 b2 b3=(65533,1):=by
        unfold Lib.decodeN
        rw[if_neg ha,if_neg (by omega),if_neg (by omega),if_pos ⟨by omega,hc⟩,if_neg hv]
       rw[hd,if_pos hc,decide_eq_true (by omega)]
       rfl
     ·have hd:Lib.decodeN n b0 b1 b2 b3=(65533,1):=by
       unfold Lib.decodeN
       rw[if_neg ha,if_neg (by omega),if_neg (by omega),if_neg (fun h=>hc h.2)]
      rw[hd,if_neg hc];rfl
    ·have hl:Ag n b0 b1 b2 b3=none:=by unfold Ag jg;rw[if_neg hbad,if_neg ha,if_neg h2,if_neg h3,if_neg h4]
     have hd:Lib.decodeN n b0 b1 b2 b3=(65533,1):=by
      unfold Lib.decodeN
      repeat' split
      all_goals first|rfl|omega
     rw[hl,hd];rfl
theorem F8(l:List UInt8)(hl:l≠[]):letter l=if ((Lib.decodeL l).1=65533∧(Lib.decodeL l).2=1)∨badR (Lib.decodeL l).1=true then none else some (Lib.decodeL l).2:=by
 cases l with
 |nil=>exact absurd rfl hl
 |cons b r=>
  rw[UL,J5 _ _ _ _ _ (UInt8.toNat_lt b),Lib.decodeL_N]
  simp only[UM]
  rfl
theorem yT:∀(f:Nat) (l:List UInt8) (n:Nat),l.length≤f→lettersOf l n=match qF l n with
  |none=>none
  |some k=>if Lib.validD l then some k else none
 |0,l,n,h=>by
  obtain rfl:l=[]:=List.eq_nil_of_length_eq_zero (by omega)
  rfl
 |f+1,l,n,h=>by
  by_cases hl:l=[]
  ·subst hl;rfl
  ·have hw:=Lib.decodeL_width l
   rw[nK l n hl,F8 l hl,Bl l n hl,Lib.validD_step l hl]
   by_cases hb:badR (Lib.decodeL l).1=true
   ·rw[if_pos (.inr hb),if_pos hb]
   ·rw[if_neg hb]
    by_cases hi:(Lib.decodeL l).1=65533∧(Lib.decodeL l).2=1
    ·rw[if_pos (.inl hi),if_pos hi]
     cases qF (l.drop (Lib.decodeL l).2) (n+1) <;> rfl
    ·rw[if_neg (by rintro (h|h);exact hi h;exact hb h),if_neg hi]
     have hpos:0<l.length:=List.length_pos_iff.2 hl
     exact yT f _ _ (by rw[List.length_drop];omega)
theorem ug(l:List UInt8):je l=nameB l:=by
 unfold je nameB
 rw[yT l.length l 0 (Nat.le_refl _)]
 cases qF l 0 with
 |none=>rfl
 |some n=>
  simp only
  by_cases hv:Lib.validD l=true
  ·rw[if_pos hv,hv]
   simp[Nat.one_le_iff_ne_zero,Nat.pos_iff_ne_zero,Bool.and_assoc]
  ·rw[if_neg hv,Bool.eq_false_iff.2 hv]
   simp
end Go.Proofs.YtdkogijdfgfpeaaGreatDoor
namespace Go.Proofs.YtdkogijdfgfpeaaGreatDoor
open Go Go.RowKit
def jw(dir name:List UInt8):List Node→Bool→Bool
 | [],inn=>inn
 |y :: r,inn=>if y.path=dir∧y.kind=4 then jw dir name r true
  else if inn=false then jw dir name r false
  else if aQ y.path dir=false then false
  else if (aK y.path).1=dir∧pY name (aK y.path).2=true then false
  else jw dir name r inn
def eU(l:List Node)(k:Nat)(x:Node):Bool:=
 if 30≤k∨aZ x.kind x.data=false then false
 else if k=0 then decide (x.path=[])
 else if x.path=[]∨x.path.head? =some 47∨je (aK x.path).2=false∨5<lV x.path then false
 else jw (aK x.path).1 (aK x.path).2 (l.take k) false
theorem wR(a b:List UInt8):pY a b= !Op.bytesLess b a:=by
 unfold pY
 induction a generalizing b with
 |nil=>cases b <;> rfl
 |cons x s ih=>
  cases b with
  |nil=>rfl
  |cons y t=>
   simp only[Op.bytesLess]
   have:=ih t
   rcases Nat.lt_trichotomy x.toNat y.toNat with h|h|h
   ·have h1:x<y:=UInt8.lt_iff_toNat_lt.2 h
    have h2:¬y<x:=fun h'=>by have:=UInt8.lt_iff_toNat_lt.1 h';omega
    have h3:¬y=x:=fun e=>by rw[e] at h;omega
    simp[h1,h2,h3]
   ·have h1:x=y:=UInt8.toNat_inj.1 h
    subst h1
    simpa using this
   ·have h1:y<x:=UInt8.lt_iff_toNat_lt.2 h
    have h2:¬x<y:=fun h'=>by have:=UInt8.lt_iff_toNat_lt.1 h';omega
    have h3:¬x=y:=fun e=>by rw[e] at h;omega
    simp[h1,h2,h3]
theorem J6(P:ByteArray):(aK P.data.toList).1.length≤P.size∧(aK P.data.toList).2.length≤P.size:=by
 unfold aK
 split
 ·simp only[List.length_take,List.length_drop,dlen];omega
 ·simp
theorem NZ(v:Value)(l:List Node)(k:Nat)(x:Node)(w:World)(hv:Rd w 3 v l.length (ak l))(hk:k<l.length)(hx:l[k]=x)(hfit:Dq l):
 Calls Tryz.prog 124 #[v,.int .i64 k] w fun e w'=>e=.returned (.bool (eU l k x))∧Keeps Non w w':=by
 have hf:=hfit l[k] (List.getElem_mem hk)
 have hat:=iJ l k hk
 rw[hx] at hf hat
 obtain⟨p,kd,da⟩:=x
 obtain⟨P,rfl⟩:∃P:ByteArray,p=P.data.toList:=⟨⟨p.toArray⟩,rfl⟩
 have eP:(⟨P.data.toList.toArray⟩:ByteArray)=P:=(wQ rfl).symm
 simp only at hat hf
 obtain⟨b,off,cap,rfl,-,hnc,hcm,hbl,hc,-⟩:=hv.pos (by omega)
 unfold maxLen at hcm
 have c0:w.cell? ⟨b,off+k*3,none⟩=some (sv P.data.toList):=(hc _ (by omega)).trans hat.1
 have c1:w.cell? ⟨b,off+k*3+1,none⟩=some (.int .i64 kd):=(hc _ (by omega)).trans hat.2.1
 have c2:w.cell? ⟨b,off+k*3+2,none⟩=some (sv da):=(hc _ (by omega)).trans hat.2.2
 have HC:Hid (∀j,j<l.length*3→w.cell? ⟨b,off+j,none⟩=(ak l)[j]?):=hc
 have qg:=Lib.hid hfit
 unfold sv at c0 c2
 rw[eP] at c0
 have hsz:(⟨da.toArray⟩:ByteArray).size≤maxLen:=by show da.toArray.size≤_;simp;unfold maxLen;omega
 have P9:=Lib.hid hsz
 have hpz:P.size≤4611686018427387904:=by rw[←dlen];omega
 have HPZ:=Lib.hid hpz
 clear hc hv hat hfit hf hx hsz hpz eP
 go_enter Tryz.func124,Tryz.ntmps124
 go_upto_region 2 with(fail)
 obtain⟨w1,hw1⟩:∃w1,w.alloc (.cells #[.string P,.int .i64 kd,.string ⟨da.toArray⟩] 49)=w1:=⟨_,rfl⟩
 have hbox:aS w1 w.heap.size #[.string P,.int .i64 kd,.string ⟨da.toArray⟩] 49:=by rw[←hw1];exact aS.new _ _ _
 have HB1:Hid (w.heap.size<w1.heap.size):=hbox.lt
 have iy:Hid (Keeps Non w w1):=by rw[←hw1];exact(Keeps.refl _ _).alloc _
 rw[hw1]
 clear hw1 c0 c1 c2
 have n0:w1.cell? ⟨w.heap.size,0,none⟩=some (.string P):=hbox.cell 0
 have n1:w1.cell? ⟨w.heap.size,1,none⟩=some (.int .i64 kd):=hbox.cell 1
 have n2:w1.cell? ⟨w.heap.size,2,none⟩=some (.string ⟨da.toArray⟩):=hbox.cell 2
 clear hbox
 by_cases h30:30≤k
 ·have hd1:decide ((30:Int)≤(k:Int))=true:=by simp;omega
  have HF:Hid (eU l k ⟨P.data.toList,kd,da⟩=false):=by show _=_;unfold eU;rw[if_pos (.inl h30)]
  go_wp2_with fail
  go_ret
  exact⟨aF HF.out.symm,iy.out⟩
 ·have hd1:decide ((30:Int)≤(k:Int))=false:=by simp;omega
  cases hd:aZ kd da with
  |false=>
   have HF:Hid (eU l k ⟨P.data.toList,kd,da⟩=false):=by show _=_;unfold eU;rw[if_pos (.inr hd)]
   have HD:=Lib.hid hd
   clear hd
   go_wp2_with fail
   refine(rE kd ⟨da.toArray⟩ _ P9.out).mono ?_
   rintro e w2 ⟨rfl,rfl⟩
   rw[show aZ kd (⟨da.toArray⟩:ByteArray).data.toList=false from HD.out]
   go_wp2_with fail
   go_ret
   exact⟨aF HF.out.symm,iy.out⟩
  |true=>
   have HD:=Lib.hid hd
   have IU:Hid (¬(30≤k∨aZ kd da=false)):=by show ¬_;rw[hd];simp;omega
   clear hd
   by_cases hk0:k=0
   ·have hb0:((k:Int)==0)=true:=by rw[beq_iff_eq];omega
    have HF:Hid (eU l k ⟨P.data.toList,kd,da⟩=P.toList.isEmpty):=by
     show _=_;unfold eU;rw[if_neg IU.out,if_pos hk0]
     rw[ByteArray.toList_eq]
     cases P.data.toList <;> simp
    clear hk0 h30
    go_wp2_with fail
    refine(rE kd ⟨da.toArray⟩ _ P9.out).mono ?_
    rintro e w2 ⟨rfl,rfl⟩
    rw[show aZ kd (⟨da.toArray⟩:ByteArray).data.toList=true from HD.out]
    go_wp2_with fail
    go_ret
    exact⟨aF HF.out.symm,iy.out⟩
   ·have hb0:((k:Int)==0)=false:=by rw[beq_eq_false_iff_ne];omega
    have xJ:Hid (eU l k ⟨P.data.toList,kd,da⟩=if P.data.toList=[]∨P.data.toList.head? =some 47∨je (aK P.data.toList).2=false∨5<lV P.data.toList then false else jw (aK P.data.toList).1 (aK P.data.toList).2 (l.take k) false):=by
     show _=_;unfold eU;rw[if_neg IU.out,if_neg hk0]
    clear hk0 h30
    go_wp2_with fail
    refine(rE kd ⟨da.toArray⟩ _ P9.out).mono ?_
    rintro e w2 ⟨rfl,rfl⟩
    rw[show aZ kd (⟨da.toArray⟩:ByteArray).data.toList=true from HD.out]
    go_wp2_with fail
    refine(yt P _ (by have:=HPZ.out;unfold maxLen;omega)).mono ?_
    rintro e w2 ⟨rfl,hk2⟩
    have n0:w2.cell? ⟨w.heap.size,0,none⟩=some (.string P):=((hk2.below (Nat.le_refl _) (fun _ _ h=>h)).cell (p:=⟨w.heap.size,0,none⟩) HB1.out).trans n0
    have iP:=Lib.hid (iy.out.trans hk2 (fun k hk=>.inl hk))
    have hdl:(aK P.data.toList).1.length≤P.size∧(aK P.data.toList).2.length≤P.size:=J6 P
    clear hk2 n1 n2
    generalize hDN:aK P.data.toList=DN at *
    obtain⟨dir,nm⟩:=DN
    simp only at hdl xJ ⊢
    have ak0:dir.length≤4611686018427387904:=by have:=HPZ.out;omega
    have ak1:nm.length≤4611686018427387904:=by have:=HPZ.out;omega
    have UN:=Lib.hid hDN
    clear hDN hdl
    by_cases hp0:P.data.toList=[]
    ·have hb1:P.toList.isEmpty=true:=by rw[ByteArray.toList_eq,hp0];rfl
     have HF:Hid (eU l k ⟨P.data.toList,kd,da⟩=false):=by show _=_;rw[xJ.out,if_pos (.inl hp0)]
     clear hp0
     unfold sv
     go_wp2_with fail
     go_ret
     exact⟨aF HF.out.symm,iP.out⟩
    ·have hb1:P.toList.isEmpty=false:=by rw[ByteArray.toList_eq];simpa using hp0
     have hpos:0<P.size:=by
      rw[←dlen];exact List.length_pos_iff.2 hp0
     by_cases h47:P[0]=47
     ·have hb2:((P[0].toNat:Int)==47)=true:=by rw[h47];rfl
      have HF:Hid (eU l k ⟨P.data.toList,kd,da⟩=false):=by show _=_;rw[xJ.out,if_pos (.inr (.inl (by simpa using P8 hpos h47)))]
      clear hp0 h47
      unfold sv
      go_wp2_with fail
      go_ret
      exact⟨aF HF.out.symm,iP.out⟩
     ·have hb2:((P[0].toNat:Int)==47)=false:=by
       rw[beq_eq_false_iff_ne];intro e;exact h47 (UInt8.toNat_inj.1 (show P[0].toNat=47 by omega))
      have HH:Hid (¬P.data.toList.head? =some 47):=by show ¬_;have:=Dp hpos h47;simpa using this
      have Qe:=Lib.hid hp0
      clear hp0 h47
      unfold sv
      go_wp2_with fail
      refine(Gx ⟨nm.toArray⟩ _ (by show nm.toArray.size≤_;simp;omega)).mono ?_
      rintro e w3 ⟨rfl,hk3⟩
      rw[show(⟨nm.toArray⟩:ByteArray).data.toList=nm from rfl]
      have hbs:w.heap.size<w2.heap.size:=by
       rcases Nat.lt_or_ge w.heap.size w2.heap.size with h|h
       ·exact h
       ·rw[World.cell?,Array.getElem?_eq_none h] at n0;cases n0
      have n0:w3.cell? ⟨w.heap.size,0,none⟩=some (.string P):=((hk3.below (Nat.le_refl _) (fun _ _ h=>h)).cell (p:=⟨w.heap.size,0,none⟩) hbs).trans n0
      have kL:=Lib.hid (iP.out.trans hk3 (fun k hk=>.inl hk))
      clear hk3 hbs
      cases hnm:je nm with
      |false=>
       have HF:Hid (eU l k ⟨P.data.toList,kd,da⟩=false):=by show _=_;rw[xJ.out,if_pos (.inr (.inr (.inl hnm)))]
       clear hnm
       go_wp2_with fail
       go_ret
       exact⟨aF HF.out.symm,kL.out⟩
      |true=>
       have UO:=Lib.hid hnm
       clear hnm
       go_wp2_with fail
       refine(NW P _ HPZ.out).mono ?_
       rintro e w4 ⟨rfl,rfl⟩
       by_cases h5:5<lV P.data.toList
       ·have hb3:decide ((5:Int)<((lV P.data.toList:Nat):Int))=true:=by simp;omega
        have HF:Hid (eU l k ⟨P.data.toList,kd,da⟩=false):=by show _=_;rw[xJ.out,if_pos (.inr (.inr (.inr h5)))]
        go_wp2_with fail
        go_ret
        exact⟨aF HF.out.symm,kL.out⟩
       ·have hb3:decide ((5:Int)<((lV P.data.toList:Nat):Int))=false:=by simp;omega
        have HA:Hid (eU l k ⟨P.data.toList,kd,da⟩=jw dir nm (l.take k) false):=by
         show _=_
         rw[xJ.out,if_neg]
         rintro (h|h|h|h)
         ·exact Qe.out h
         ·exact HH.out h
         ·rw[UO.out] at h;cases h
         ·exact h5 h
        generalize lV P.data.toList=dp at *
        go_wp2_with fail
        clear xJ hb3 h5 HD IU hd1 hb0 hb1 hb2 HH Qe UO n0 UN
        go_loopg [8,62] k (fun gk inn jj wr=>∃(j:Nat) (i:Bool),gk=k-j∧j≤k∧inn=.bool i∧jj=.int .i64 j∧Hid (Keeps Non w wr)∧Hid (eU l k ⟨P.data.toList,kd,da⟩=jw dir nm ((l.take k).drop j) i))
        case atStart=>exact⟨0,false,rfl,by omega,rfl,rfl,kL,HA⟩
        case round=>
         clear HA kL iP iy
         obtain⟨j,i,rfl,hj,rfl,rfl,HKr,HA⟩:=hrel
         by_cases hlt:j<k
         ·have hjl:j<l.length:=by omega
          have hat:=iJ l j hjl
          have hf:=qg.out l[j] (List.getElem_mem hjl)
          have hst:(l.take k).drop j=l[j] :: (l.take k).drop (j+1):=by
           rw[List.drop_eq_getElem_cons (by simp;omega)]
           simp
          have hbelow:=HKr.out.below (Nat.le_refl _) (fun _ _ h=>h)
          generalize l[j]=N at *
          obtain⟨y,ky,dy⟩:=N
          simp only at hat hf
          have c0:wr.cell? ⟨b,off+j*3,none⟩=some (sv y):=(hbelow.cell (p:=⟨b,off+j*3,none⟩) hbl).trans ((HC.out _ (by omega)).trans hat.1)
          have c1:wr.cell? ⟨b,off+j*3+1,none⟩=some (.int .i64 ky):=(hbelow.cell (p:=⟨b,off+j*3+1,none⟩) hbl).trans ((HC.out _ (by omega)).trans hat.2.1)
          have c2:wr.cell? ⟨b,off+j*3+2,none⟩=some (sv dy):=(hbelow.cell (p:=⟨b,off+j*3+2,none⟩) hbl).trans ((HC.out _ (by omega)).trans hat.2.2)
          unfold sv at c0 c2
          have HST:Hid (eU l k ⟨P.data.toList,kd,da⟩=if y=dir∧ky=4 then jw dir nm ((l.take k).drop (j+1)) true
           else if i=false then jw dir nm ((l.take k).drop (j+1)) false
           else if aQ y dir=false then false
           else if (aK y).1=dir∧pY nm (aK y).2=true then false
           else jw dir nm ((l.take k).drop (j+1)) i):=by show _=_;rw[HA.out,hst];rfl
          have ak2:y.length≤4611686018427387904:=hf.1
          clear hat hst hbelow hf HA
          go_upto_region 13 with(fail)
          obtain⟨w5,hw5⟩:∃w5,wr.alloc (.cells #[.string ⟨y.toArray⟩,.int .i64 ky,.string ⟨dy.toArray⟩] 49)=w5:=⟨_,rfl⟩
          have hbox:aS w5 wr.heap.size #[.string ⟨y.toArray⟩,.int .i64 ky,.string ⟨dy.toArray⟩] 49:=by rw[←hw5];exact aS.new _ _ _
          have ng:Hid (Keeps Non w w5):=by rw[←hw5];exact HKr.out.alloc _
          rw[hw5]
          clear hw5 c0 c1 c2 HKr
          generalize wr.heap.size=bx at *
          have n0:w5.cell? ⟨bx,0,none⟩=some (.string ⟨y.toArray⟩):=hbox.cell 0
          have n1:w5.cell? ⟨bx,1,none⟩=some (.int .i64 ky):=hbox.cell 1
          clear hbox
          go_cut [74] (fun c wx=>w5=wx∧c=.bool (decide (y=dir∧ky=4)))
          case first=>
           by_cases hy:y=dir
           ·have hby:(y==dir)=true:=by rw[beq_iff_eq];exact hy
            by_cases h4:ky=4
            ·have hb4:(ky==4)=true:=by rw[h4];rfl
             have HV:Hid (decide (y=dir∧ky=4)=true):=decide_eq_true ⟨hy,h4⟩
             clear hy h4
             go_wp2_with fail
             go_meet
             rw[HV.out]
             exact⟨rfl,rfl⟩
            ·have hb4:(ky==4)=false:=by rw[beq_eq_false_iff_ne];exact h4
             have HV:Hid (decide (y=dir∧ky=4)=false):=decide_eq_false (fun h=>h4 h.2)
             clear hy h4
             go_wp2_with fail
             go_meet
             rw[HV.out]
             exact⟨rfl,rfl⟩
           ·have hby:(y==dir)=false:=by rw[beq_eq_false_iff_ne];exact hy
            have HV:Hid (decide (y=dir∧ky=4)=false):=decide_eq_false (fun h=>hy h.1)
            clear hy
            go_wp2_with fail
            go_meet
            rw[HV.out]
            exact⟨rfl,rfl⟩
          case rest=>
           obtain⟨rfl,rfl⟩:=hcut
           by_cases hyd:y=dir∧ky=4
           ·have hd1:decide (y=dir∧ky=4)=true:=decide_eq_true hyd
            have HA2:Hid (eU l k ⟨P.data.toList,kd,da⟩=jw dir nm ((l.take k).drop (j+1)) true):=by show _=_;rw[HST.out,if_pos hyd]
            clear hyd
            rw[hd1]
            clear hd1
            go_wp2_with fail
            go_roundg (k-(j+1))
            case measure=>omega
            case rel=>exact⟨j+1,true,rfl,by omega,rfl,by go_num,ng,HA2⟩
           ·have hd1:decide (y=dir∧ky=4)=false:=decide_eq_false hyd
            have aav:Hid (eU l k ⟨P.data.toList,kd,da⟩=if i=false then jw dir nm ((l.take k).drop (j+1)) false
             else if aQ y dir=false then false
             else if (aK y).1=dir∧pY nm (aK y).2=true then false
             else jw dir nm ((l.take k).drop (j+1)) i):=by show _=_;rw[HST.out,if_neg hyd]
            clear hyd
            rw[hd1]
            clear hd1 HST
            cases i with
            |false=>
             have HA2:Hid (eU l k ⟨P.data.toList,kd,da⟩=jw dir nm ((l.take k).drop (j+1)) false):=by show _=_;rw[aav.out,if_pos rfl]
             go_wp2_with fail
             go_roundg (k-(j+1))
             case measure=>omega
             case rel=>exact⟨j+1,false,rfl,by omega,rfl,by go_num,ng,HA2⟩
            |true=>
             have aaw:Hid (eU l k ⟨P.data.toList,kd,da⟩=if aQ y dir=false then false
              else if (aK y).1=dir∧pY nm (aK y).2=true then false
              else jw dir nm ((l.take k).drop (j+1)) true):=by show _=_;rw[aav.out];rfl
             clear aav
             go_wp2_with fail
             refine(yu ⟨y.toArray⟩ ⟨dir.toArray⟩ _ (by show dir.toArray.size<_;simp;omega) (by show y.toArray.size≤_;simp;omega)).mono ?_
             rintro e w6 ⟨rfl,rfl⟩
             rw[show(⟨y.toArray⟩:ByteArray).data.toList=y from rfl,show(⟨dir.toArray⟩:ByteArray).data.toList=dir from rfl]
             cases hbl:aQ y dir with
             |false=>
              have HF:Hid (eU l k ⟨P.data.toList,kd,da⟩=false):=by show _=_;rw[aaw.out,if_pos hbl]
              clear hbl
              go_wp2_with fail
              go_ret
              exact⟨aF HF.out.symm,ng.out⟩
             |true=>
              have Yn:Hid (eU l k ⟨P.data.toList,kd,da⟩=if (aK y).1=dir∧pY nm (aK y).2=true then false
               else jw dir nm ((l.take k).drop (j+1)) true):=by show _=_;rw[aaw.out,if_neg (by rw[hbl];decide)]
              clear hbl aaw
              go_wp2_with fail
              refine(yt ⟨y.toArray⟩ _ (by show y.toArray.size≤_;simp;unfold maxLen;omega)).mono ?_
              rintro e w6 ⟨rfl,hk6⟩
              have yU:=Lib.hid (ng.out.trans hk6 (fun k hk=>.inl hk))
              clear hk6 ng
              rw[show(⟨y.toArray⟩:ByteArray).data.toList=y from rfl]
              generalize aK y=DY at *
              obtain⟨u,lst⟩:=DY
              simp only at Yn ⊢
              unfold sv
              by_cases hu:u=dir
              ·have hbu:(u==dir)=true:=by rw[beq_iff_eq];exact hu
               cases hle:pY nm lst with
               |true=>
                have hg0:=wR nm lst
                have hg2:(!Op.bytesLess lst nm)=true:=by rw[←hg0];exact hle
                have HF:Hid (eU l k ⟨P.data.toList,kd,da⟩=false):=by show _=_;rw[Yn.out,if_pos ⟨hu,hle⟩]
                clear hu hle
                go_wp2_with fail
                go_ret
                exact⟨aF HF.out.symm,yU.out⟩
               |false=>
                have hg2:(!Op.bytesLess lst nm)=false:=by rw[←wR];exact hle
                have HA2:Hid (eU l k ⟨P.data.toList,kd,da⟩=jw dir nm ((l.take k).drop (j+1)) true):=by show _=_;rw[Yn.out,if_neg (fun h=>by rw[hle] at h;exact absurd h.2 (by decide))]
                clear hu hle
                go_wp2_with fail
                go_roundg (k-(j+1))
                case measure=>omega
                case rel=>exact⟨j+1,true,rfl,by omega,rfl,by go_num,yU,HA2⟩
              ·have hbu:(u==dir)=false:=by rw[beq_eq_false_iff_ne];exact hu
               have HA2:Hid (eU l k ⟨P.data.toList,kd,da⟩=jw dir nm ((l.take k).drop (j+1)) true):=by show _=_;rw[Yn.out,if_neg (fun h=>hu h.1)]
               clear hu
               go_wp2_with fail
               go_roundg (k-(j+1))
               case measure=>omega
               case rel=>exact⟨j+1,true,rfl,by omega,rfl,by go_num,yU,HA2⟩
         ·have HF:Hid (eU l k ⟨P.data.toList,kd,da⟩=i):=by
           show _=_
           rw[HA.out,List.drop_eq_nil_of_le (by simp;omega)]
           rfl
          clear HA
          go_wp2_with fail
          go_ret
          exact⟨aF HF.out.symm,HKr.out⟩
def IX(l:List Node):List Node→Nat→Int
 | [],_=>if l=[] then 0 else -1
 |x :: r,k=>if eU l k x=true then IX l r (k+1) else k
def kM(l:List Node):Int:=IX l l 0
theorem N7(v:Value)(l:List Node)(w:World)(hv:Rd w 3 v l.length (ak l))(hfit:Dq l):
 Calls Tryz.prog 97 #[v] w fun e w'=>e=.returned (.int .i64 (kM l))∧Keeps Non w w':=by
 obtain⟨a,cap,rfl,hl63,hcm⟩:=hv.shape
 unfold maxLen at hcm
 have HV:=Lib.hid hv
 have qg:=Lib.hid hfit
 clear hv hfit
 go_enter Tryz.func97,Tryz.ntmps97
 go_wp2_with fail
 go_loopg [6] l.length (fun gk i wr=>∃k:Nat,gk=l.length-k∧k≤l.length∧i=.int .i64 k∧Hid (Keeps Non w wr)∧Hid (kM l=IX l (l.drop k) k))
 case atStart=>exact⟨0,rfl,Nat.zero_le _,rfl,Keeps.refl _ _,rfl⟩
 case round=>
  obtain⟨k,rfl,hk,rfl,HK,HW⟩:=hrel
  by_cases hlt:k<l.length
  ·have hg:Hid (kM l=if eU l k l[k]=true then IX l (l.drop (k+1)) (k+1) else k):=by show _=_;rw[HW.out,List.drop_eq_getElem_cons hlt];rfl
   generalize hx:l[k]=x at *
   have HX:=Lib.hid hx
   clear hx HW
   go_wp2_with fail
   refine(NZ _ l k x wr (HV.out.non HK.out) hlt HX.out qg.out).mono ?_
   rintro e w1 ⟨rfl,hk1⟩
   have iy:=Lib.hid (HK.out.trans hk1 (fun k hk=>.inl hk))
   clear hk1 HK
   cases hr:eU l k x with
   |false=>
    have HF:Hid (kM l=k):=by show _=_;rw[hg.out,if_neg (by rw[hr];decide)]
    clear hr
    go_wp2_with fail
    go_ret
    exact⟨jU HF.out.symm,iy.out⟩
   |true=>
    have HF:Hid (kM l=IX l (l.drop (k+1)) (k+1)):=by show _=_;rw[hg.out,if_pos hr]
    clear hr
    go_wp2_with fail
    go_roundg (l.length-(k+1))
    case measure=>omega
    case rel=>exact⟨k+1,rfl,by omega,by go_num,iy,HF⟩
  ·have hF:kM l=if l=[] then 0 else -1:=by
    rw[HW.out,List.drop_eq_nil_of_le (by omega)];rfl
   by_cases h0:l.length=0
   ·have hb:((l.length:Int)==0)=true:=by rw[beq_iff_eq];omega
    have HF:Hid (kM l=0):=by show _=_;rw[hF,if_pos (List.eq_nil_of_length_eq_zero h0)]
    clear hF h0 HW
    go_wp2_with fail
    go_ret
    exact⟨jU HF.out.symm,HK.out⟩
   ·have hb:((l.length:Int)==0)=false:=by rw[beq_eq_false_iff_ne];omega
    have HF:Hid (kM l= -1):=by show _=_;rw[hF,if_neg (fun e=>h0 (by rw[e];rfl))]
    clear hF h0 HW
    go_wp2_with fail
    go_ret
    exact⟨jU HF.out.symm,HK.out⟩
end Go.Proofs.YtdkogijdfgfpeaaGreatDoor
namespace Go.Proofs.YtdkogijdfgfpeaaGreatDoor
open Go Go.RowKit
def vK(kd:Int)(da:List UInt8):List UInt8:=
 if kd=1 then aC [[102,105,108,101],[100,97,116,97],da]
 else if kd=2 then aC [[102,105,108,101],[101,120,101,99],[],[100,97,116,97],da]
 else aC [[108,105,110,107],[116,111],da]
def jA(x:Node)(kids:List UInt8):List UInt8:=
 aC [[40],[116,121,112,101]]++((if x.kind=1∨x.kind=2∨x.kind=3 then vK x.kind x.data else bM [100,105,114]++kids)++bM [41])
def kX(y:Node):List UInt8:=aC [[101,110,116,114,121],[40],[110,97,109,101],(aK y.path).2,[110,111,100,101]]
def uh:Nat→List Node→List UInt8
 |0,_=>[]
 |_,[]=>[]
 |f+1,y :: r=>kX y++(jA y (uh f (r.takeWhile fun z=>aQ z.path y.path))++(bM [41]++uh f (r.dropWhile fun z=>aQ z.path y.path)))
theorem qj:∀(f g:Nat) (l:List Node),l.length≤f→l.length≤g→uh f l=uh g l
 |0,g,l,hf,_=>by
  obtain rfl:l=[]:=List.eq_nil_of_length_eq_zero (by omega)
  cases g <;> rfl
 |f+1,0,l,_,hg=>by
  obtain rfl:l=[]:=List.eq_nil_of_length_eq_zero (by omega)
  rfl
 |f+1,g+1,[],_,_=>rfl
 |f+1,g+1,y :: r,hf,hg=>by
  have h1:=(List.takeWhile_sublist (l:=r) (fun z=>aQ z.path y.path)).length_le
  have h2:=(List.dropWhile_sublist (l:=r) (fun z=>aQ z.path y.path)).length_le
  simp only[List.length_cons] at hf hg
  simp only[uh]
  rw[qj f g _ (by omega) (by omega),qj f g (r.dropWhile _) (by omega) (by omega)]
def bJ(l:List Node):List UInt8:=uh l.length l
theorem rF(y:Node)(r:List Node):bJ (y :: r)=kX y++(jA y (bJ (r.takeWhile fun z=>aQ z.path y.path))++(bM [41]++bJ (r.dropWhile fun z=>aQ z.path y.path))):=by
 have h1:=(List.takeWhile_sublist (l:=r) (fun z=>aQ z.path y.path)).length_le
 have h2:=(List.dropWhile_sublist (l:=r) (fun z=>aQ z.path y.path)).length_le
 unfold bJ
 simp only[List.length_cons,uh]
 rw[qj r.length _ _ h1 (Nat.le_refl _),qj r.length _ (r.dropWhile _) h2 (Nat.le_refl _)]
def iI:List Node→List UInt8
 | []=>[]
 |x :: r=>jA x (bJ r)
attribute [local irreducible] aC bM
theorem yw(x:Node)(kids:List UInt8)(h:x.kind=1∨x.kind=2∨x.kind=3):jA x kids=aC [[40],[116,121,112,101]]++vK x.kind x.data++bM [41]:=by
 unfold jA;rw[if_pos h,List.append_assoc]
theorem QW(x:Node)(kids:List UInt8)(h:¬(x.kind=1∨x.kind=2∨x.kind=3)):jA x kids=aC [[40],[116,121,112,101]]++bM [100,105,114]++kids++bM [41]:=by
 unfold jA;rw[if_neg h];simp only[List.append_assoc]
theorem N8{w:World}{sz:Nat}{c:Array Value}(n:Nat)(l:List (List UInt8))(hb:aS w sz c 9)(hc:c=(bf l).toArray)(hn:l.length=n)(h:l.length≤100):Sl w 0 9 1 (.slice (some ⟨sz,0,none⟩) n n) l.length (bf l):=by
 subst hn
 subst hc
 exact⟨by simp[bf],.inr ⟨sz,0,_,_,rfl,Nat.zero_le _,hb,Nat.le_refl _,by unfold maxLen;omega,by simp[bf],fun i hi=>by simp⟩⟩
theorem QX(m:Nat):∀(l:List Node) (v:Value) (w:World),l.length≤m→l≠[]→Rd w 3 v l.length (ak l)→jr l→(iI l).length≤70368744177664→
 Calls Tryz.prog 127 #[v] w fun e w'=>e=.returned (.string ⟨(iI l).toArray⟩)∧Keeps Non w w':=by
 induction m with
 |zero=>intro l v w hm hne;exact absurd (List.eq_nil_of_length_eq_zero (by omega)) hne
 |succ m ih=>
 intro l v w hm hne hv hfit hlen
 obtain⟨x,r,rfl⟩:=List.exists_cons_of_ne_nil hne
 clear hne
 have hf:=hfit x (List.mem_cons_self ..)
 have hat:=iJ (x :: r) 0 (by simp)
 obtain⟨p,kd,da⟩:=x
 simp only[List.getElem_cons_zero] at hat hf
 obtain⟨b,off,cap,rfl,-,hnc,hcm,hbl,hc,-⟩:=hv.pos (by simp)
 unfold maxLen at hcm
 have c0:w.cell? ⟨b,off,none⟩=some (sv p):=(hc 0 (by simp)).trans hat.1
 have c1:w.cell? ⟨b,off+1,none⟩=some (.int .i64 kd):=(hc 1 (by simp;omega)).trans hat.2.1
 have c2:w.cell? ⟨b,off+2,none⟩=some (sv da):=(hc 2 (by simp;omega)).trans hat.2.2
 have HC:Hid (∀j,j<(⟨p,kd,da⟩ :: r:List Node).length*3→w.cell? ⟨b,off+j,none⟩=(ak (⟨p,kd,da⟩ :: r))[j]?):=hc
 have qg:=Lib.hid hfit
 have HV:=Lib.hid hv
 have HIH:=Lib.hid ih
 have HF:=Lib.hid hf
 have HLEN:=Lib.hid hlen
 unfold sv at c0 c2
 have hP0:Hid (iI (⟨p,kd,da⟩ :: r)=jA ⟨p,kd,da⟩ (bJ r)):=rfl
 have hHR:Hid (r=(⟨p,kd,da⟩ :: r:List Node).drop 1):=rfl
 have hLp:0<(⟨p,kd,da⟩ :: r:List Node).length:=by simp
 clear hc hv hat hfit hf ih hlen
 generalize (⟨p,kd,da⟩ :: r:List Node)=L at *
 go_enter Tryz.func127,Tryz.ntmps127
 go_upto_region 2 with(fail)
 obtain⟨w1,hw1⟩:∃w1,w.alloc (.cells #[.string ⟨p.toArray⟩,.int .i64 kd,.string ⟨da.toArray⟩] 49)=w1:=⟨_,rfl⟩
 have hbox:aS w1 w.heap.size #[.string ⟨p.toArray⟩,.int .i64 kd,.string ⟨da.toArray⟩] 49:=by rw[←hw1];exact aS.new _ _ _
 have iy:Hid (Keeps Non w w1):=by rw[←hw1];exact(Keeps.refl _ _).alloc _
 rw[hw1]
 have NV:=Lib.hid hbox
 clear hw1 c0 c1 c2 hbox
 generalize hbx:w.heap.size=bx at *
 go_wp2_with fail
 refine(mZ _ [[40],[116,121,112,101]] _ ?p1 ?p2 ?p3).mono ?_
 case p1=>exact aP w1 2 _ [[40],[116,121,112,101]] _ (by simp) rfl rfl (by simp)
 case p2=>simp
 case p3=>simp[roomOf]
 rintro e w2 ⟨rfl,hk2⟩
 have hk12:Keeps Non w1 w2:=((Keeps.refl Non w1).alloc (.cells #[.string ⟨#[40]⟩,.string ⟨#[116,121,112,101]⟩] 9)).trans hk2 (fun k hk=>.inl hk)
 have JV:Hid (aS w2 bx #[.string ⟨p.toArray⟩,.int .i64 kd,.string ⟨da.toArray⟩] 49):=NV.out.keeps hk12 (fun h=>h)
 have iP:Hid (Keeps Non w w2):=iy.out.trans hk12 (fun k hk=>.inl hk)
 have n1:w2.cell? ⟨bx,1,none⟩=some (.int .i64 kd):=JV.out.cell 1
 have n2:w2.cell? ⟨bx,2,none⟩=some (.string ⟨da.toArray⟩):=JV.out.cell 2
 have hT:(aC [[40],[116,121,112,101]]).length≤100:=Nat.le_trans (dL _) (by simp[roomOf])
 have hE:(bM [41]).length≤100:=by rw[gZ];have:=lK 1;simp;omega
 clear hk2 hk12 NV iy
 have HW:Hid (∀w':World,Calls Tryz.prog 104 #[.string ⟨#[41]⟩] w' fun e w''=>e=.returned (.string ⟨(bM [41]).toArray⟩)∧Keeps Non w' w''):=fun w'=>qH [41] w' (by simp)
 have hda:da.length≤1099511627776:=HF.out.2
 by_cases h1:kd=1
 ·have hb1:(kd==1)=true:=by rw[h1];rfl
  have HR:Hid (iI L=aC [[40],[116,121,112,101]]++aC [[102,105,108,101],[100,97,116,97],da]++bM [41]):=by
   show _=_
   rw[hP0.out,yw _ _ (by simp only;omega)]
   simp only[vK,h1]
   rfl
  have hL:(aC [[102,105,108,101],[100,97,116,97],da]).length≤1099511628776:=by
   refine Nat.le_trans (dL _) ?_
   simp only[roomOf,List.map_cons,List.sum_cons,List.length_cons,List.length_nil,List.map_nil,List.sum_nil]
   omega
  have P9:Hid (w2.heap.size=w2.heap.size):=rfl
  clear h1 hP0
  go_wp2_with fail
  refine(mZ _ [[102,105,108,101],[100,97,116,97],da] _ ?q11 ?q12 ?q13).mono ?_
  case q11=>exact aP w2 3 _ [[102,105,108,101],[100,97,116,97],da] _ (by simp) rfl rfl (by simp)
  case q12=>simp
  case q13=>
   simp only[roomOf,List.map_cons,List.sum_cons,List.length_cons,List.length_nil,List.map_nil,List.sum_nil]
   omega
  rintro e w3 ⟨rfl,hk3⟩
  have kL:Hid (Keeps Non w w3):=(iP.out.alloc _).trans hk3 (fun k hk=>.inl hk)
  clear hk3
  go_wp2_with fail
  refine(HW.out _).mono ?_
  rintro e w4 ⟨rfl,hk4⟩
  have wS:Hid (Keeps Non w w4):=kL.out.trans hk4 (fun k hk=>.inl hk)
  clear hk4
  go_wp2_with fail
  go_ret
  exact⟨yR (by rw[dW,dW,HR.out]),wS.out⟩
 have hb1:(kd==1)=false:=by rw[beq_eq_false_iff_ne];exact h1
 by_cases h2:kd=2
 ·have hb2:(kd==2)=true:=by rw[h2];rfl
  have HR:Hid (iI L=aC [[40],[116,121,112,101]]++aC [[102,105,108,101],[101,120,101,99],[],[100,97,116,97],da]++bM [41]):=by
   show _=_
   rw[hP0.out,yw _ _ (by simp only;omega)]
   simp only[vK,h2]
   rfl
  have hL:(aC [[102,105,108,101],[101,120,101,99],[],[100,97,116,97],da]).length≤1099511628776:=by
   refine Nat.le_trans (dL _) ?_
   simp only[roomOf,List.map_cons,List.sum_cons,List.length_cons,List.length_nil,List.map_nil,List.sum_nil]
   omega
  have P9:Hid (w2.heap.size=w2.heap.size):=rfl
  clear h2 hP0
  go_wp2_with fail
  refine(mZ _ [[102,105,108,101],[101,120,101,99],[],[100,97,116,97],da] _ ?q21 ?q22 ?q23).mono ?_
  case q21=>exact aP w2 5 _ [[102,105,108,101],[101,120,101,99],[],[100,97,116,97],da] _ (by simp) rfl rfl (by simp)
  case q22=>simp
  case q23=>
   simp only[roomOf,List.map_cons,List.sum_cons,List.length_cons,List.length_nil,List.map_nil,List.sum_nil]
   omega
  rintro e w3 ⟨rfl,hk3⟩
  have kL:Hid (Keeps Non w w3):=(iP.out.alloc _).trans hk3 (fun k hk=>.inl hk)
  clear hk3
  go_wp2_with fail
  refine(HW.out _).mono ?_
  rintro e w4 ⟨rfl,hk4⟩
  have wS:Hid (Keeps Non w w4):=kL.out.trans hk4 (fun k hk=>.inl hk)
  clear hk4
  go_wp2_with fail
  go_ret
  exact⟨yR (by rw[dW,dW,HR.out]),wS.out⟩
 have hb2:(kd==2)=false:=by rw[beq_eq_false_iff_ne];exact h2
 by_cases h3:kd=3
 ·have hb3:(kd==3)=true:=by rw[h3];rfl
  have HR:Hid (iI L=aC [[40],[116,121,112,101]]++aC [[108,105,110,107],[116,111],da]++bM [41]):=by
   show _=_
   rw[hP0.out,yw _ _ (by simp only;omega)]
   simp only[vK,h3]
   rfl
  have hL:(aC [[108,105,110,107],[116,111],da]).length≤1099511628776:=by
   refine Nat.le_trans (dL _) ?_
   simp only[roomOf,List.map_cons,List.sum_cons,List.length_cons,List.length_nil,List.map_nil,List.sum_nil]
   omega
  have P9:Hid (w2.heap.size=w2.heap.size):=rfl
  clear h3 hP0
  go_wp2_with fail
  refine(mZ _ [[108,105,110,107],[116,111],da] _ ?q31 ?q32 ?q33).mono ?_
  case q31=>exact aP w2 3 _ [[108,105,110,107],[116,111],da] _ (by simp) rfl rfl (by simp)
  case q32=>simp
  case q33=>
   simp only[roomOf,List.map_cons,List.sum_cons,List.length_cons,List.length_nil,List.map_nil,List.sum_nil]
   omega
  rintro e w3 ⟨rfl,hk3⟩
  have kL:Hid (Keeps Non w w3):=(iP.out.alloc _).trans hk3 (fun k hk=>.inl hk)
  clear hk3
  go_wp2_with fail
  refine(HW.out _).mono ?_
  rintro e w4 ⟨rfl,hk4⟩
  have wS:Hid (Keeps Non w w4):=kL.out.trans hk4 (fun k hk=>.inl hk)
  clear hk4
  go_wp2_with fail
  go_ret
  exact⟨yR (by rw[dW,dW,HR.out]),wS.out⟩
 have hb3:(kd==3)=false:=by rw[beq_eq_false_iff_ne];exact h3
 have hP1:Hid (iI L=aC [[40],[116,121,112,101]]++bM [100,105,114]++bJ r++bM [41]):=by
  show _=_
  rw[hP0.out,QW _ _ (by simp only;omega)]
 have hD:(bM [100,105,114]).length≤100:=by rw[gZ];have:=lK 3;simp;omega
 have hfl:(bJ r).length≤70368744177664:=by
  have:=HLEN.out
  rw[hP1.out] at this
  simp at this
  omega
 clear h1 h2 h3 hP0 n2
 go_wp2_with fail
 refine(qH [100,105,114] _ (by simp)).mono ?_
 rintro e w3 ⟨rfl,hk3⟩
 have kL:Hid (Keeps Non w w3):=iP.out.trans hk3 (fun k hk=>.inl hk)
 clear hk3 n1 hb1 hb2 hb3 iP
 go_wp2_with fail
 rw[dW]
 have hT2:(aC [[40],[116,121,112,101]]++bM [100,105,114]).length≤200:=by rw[List.length_append];omega
 generalize aC [[40],[116,121,112,101]]++bM [100,105,114]=T2 at *
 clear JV hT hD HF hda
 have Gy:Hid (∀(j:Nat) (hj:j<L.length) (w':World),Keeps Non w w'→w'.cell? ⟨b,off+j*3,none⟩=some (.string ⟨(L[j]).path.toArray⟩)):=by
  intro j hj w' hk
  have hat:=iJ L j hj
  have hbw:=hk.below (Nat.le_refl _) (fun _ _ h=>h)
  exact(hbw.cell (p:=⟨b,off+j*3,none⟩) (by simp only;omega)).trans ((HC.out _ (by omega)).trans hat.1)
 have hlen:=HLEN.out
 rw[hP1.out] at hlen
 simp only[List.length_append] at hlen
 clear hfl HC
 go_loopg [4,5] (L.length-1) (fun gk s i wr=>∃(k:Nat) (done:List UInt8),gk=L.length-k∧1≤k∧k≤L.length∧i=.int .i64 k∧s=.string ⟨(T2++done).toArray⟩∧Hid (Keeps Non w wr)∧Hid (bJ r=done++bJ (L.drop k)))
 case atStart=>exact⟨1,[],rfl,by omega,by omega,rfl,by rw[List.append_nil],kL,by show _=_;rw[←hHR.out];rfl⟩
 case round=>
  obtain⟨k,done,rfl,hk1,hk,rfl,rfl,HK,HFO⟩:=hrel
  have hdl:done.length+(bJ (L.drop k)).length=(bJ r).length:=by rw[HFO.out];simp
  by_cases hlt:k<L.length
  ·have hst:L.drop k=L[k] :: L.drop (k+1):=List.drop_eq_getElem_cons hlt
   have hin0:Hid (bJ (L.drop k)=kX L[k]++(jA L[k] (bJ (((L.drop (k+1)).take (k+1-(k+1)))++(L.drop (k+1)).takeWhile fun z=>aQ z.path L[k].path))++(bM [41]++bJ ((L.drop (k+1)).dropWhile fun z=>aQ z.path L[k].path)))):=by
    show _=_
    rw[hst,rF,Nat.sub_self,List.take_zero,List.nil_append]
   have hf:=qg.out L[k] (List.getElem_mem hlt)
   have hck:=Gy.out k hlt
   have HCK:Hid (∀(w':World),Keeps Non w w'→w'.cell? ⟨b,off+k*3,none⟩=some (.string ⟨(L[k]).path.toArray⟩)):=hck
   have HGK:Hid (L[k]? =some L[k]):=List.getElem?_eq_getElem hlt
   clear hst hck
   generalize L[k]=N at *
   obtain⟨y,ky,dy⟩:=N
   simp only at hf
   have HY:=Lib.hid hf
   have ak7:=hf.1
   clear hf
   go_wp2_with fail
   go_loopg [6] (L.length-(k+1)) (fun gj ti wq=>∃j:Nat,gj=L.length-j∧k+1≤j∧j≤L.length∧ti=.int .i64 j∧Hid (Keeps Non w wq)∧Hid (bJ (L.drop k)=kX ⟨y,ky,dy⟩++(jA ⟨y,ky,dy⟩ (bJ (((L.drop (k+1)).take (j-(k+1)))++(L.drop j).takeWhile fun z=>aQ z.path y))++(bM [41]++bJ ((L.drop j).dropWhile fun z=>aQ z.path y)))))
   case atStart=>exact⟨k+1,rfl,by omega,by omega,by go_num,HK,hin0⟩
   case round=>
    clear HK
    obtain⟨j,rfl,hkj,hj,rfl,HK,oG⟩:=hrel
    clear hin0
    go_upto_region 8 with(fail)
    go_cut [41] (fun c wx=>(c=.bool true∧j<L.length∧Hid (Keeps Non w wx)∧Hid (bJ (L.drop k)=kX ⟨y,ky,dy⟩++(jA ⟨y,ky,dy⟩ (bJ (((L.drop (k+1)).take (j+1-(k+1)))++(L.drop (j+1)).takeWhile fun z=>aQ z.path y))++(bM [41]++bJ ((L.drop (j+1)).dropWhile fun z=>aQ z.path y)))))∨
     (c=.bool false∧Hid (Keeps Non w wx)∧Hid (bJ (L.drop k)=kX ⟨y,ky,dy⟩++(jA ⟨y,ky,dy⟩ (bJ ((L.drop (k+1)).take (j-(k+1))))++(bM [41]++bJ (L.drop j))))))
    case first=>
     by_cases hjl:j<L.length
     ·have hcj:=Gy.out j hjl wr HK.out
      have hck:=HCK.out wr HK.out
      have hfj:=(qg.out L[j] (List.getElem_mem hjl)).1
      have hsj:L.drop j=L[j] :: L.drop (j+1):=List.drop_eq_getElem_cons hjl
      have htk:(L.drop (k+1)).take (j+1-(k+1))=(L.drop (k+1)).take (j-(k+1))++[L[j]]:=by
       rw[show j+1-(k+1)=(j-(k+1))+1 by omega,List.take_succ_eq_append_getElem (by simp;omega)]
       simp only[List.getElem_drop]
       congr 2
       congr 1
       omega
      generalize L[j]=M at *
      obtain⟨z,kz,dz⟩:=M
      simp only at hcj hfj
      have q1:IntKind.i64.wrap (j:Int)=(j:Int):=IntWalk.i64_in _ (by omega)
      have q2:(0:Int)≤(j:Int):=by omega
      have q3:(j:Int)<(L.length:Int):=by omega
      have q4:IntKind.i64.wrap (k:Int)=(k:Int):=IntWalk.i64_in _ (by omega)
      have q5:(0:Int)≤(k:Int):=by omega
      have q6:(k:Int)<(L.length:Int):=by omega
      cases hbz:aQ z y with
      |true=>
       have Yo:Hid (bJ (L.drop k)=kX ⟨y,ky,dy⟩++(jA ⟨y,ky,dy⟩ (bJ (((L.drop (k+1)).take (j+1-(k+1)))++(L.drop (j+1)).takeWhile fun z=>aQ z.path y))++(bM [41]++bJ ((L.drop (j+1)).dropWhile fun z=>aQ z.path y)))):=by
        show _=_
        rw[oG.out,htk,hsj,List.takeWhile_cons_of_pos (by simpa using hbz),List.dropWhile_cons_of_pos (by simpa using hbz),List.append_assoc,List.singleton_append]
       have HB:Hid (∀w':World,Calls Tryz.prog 153 #[.string ⟨z.toArray⟩,.string ⟨y.toArray⟩] w' fun e w''=>e=.returned (.bool true)∧w''=w'):=fun w'=>(yu ⟨z.toArray⟩ ⟨y.toArray⟩ _ (by show y.toArray.size<_;simp;omega) (by show z.toArray.size≤_;simp;omega)).mono (by rintro e w2 ⟨rfl,rfl⟩;exact⟨aF hbz,rfl⟩)
       clear hsj htk oG hbz
       go_quiet (first|(go_at_call 153;exact Calls.quiet_of_same (HB.out _)))
       go_wp2_with fail
       go_meet
       exact .inl ⟨rfl,hjl,HK.out.drewN _,Yo⟩
      |false=>
       have Yo:Hid (bJ (L.drop k)=kX ⟨y,ky,dy⟩++(jA ⟨y,ky,dy⟩ (bJ ((L.drop (k+1)).take (j-(k+1))))++(bM [41]++bJ (L.drop j)))):=by
        show _=_
        rw[oG.out,hsj,List.takeWhile_cons_of_neg (by simp[hbz]),List.dropWhile_cons_of_neg (by simp[hbz]),List.append_nil]
       have HB:Hid (∀w':World,Calls Tryz.prog 153 #[.string ⟨z.toArray⟩,.string ⟨y.toArray⟩] w' fun e w''=>e=.returned (.bool false)∧w''=w'):=fun w'=>(yu ⟨z.toArray⟩ ⟨y.toArray⟩ _ (by show y.toArray.size<_;simp;omega) (by show z.toArray.size≤_;simp;omega)).mono (by rintro e w2 ⟨rfl,rfl⟩;exact⟨aF hbz,rfl⟩)
       clear hsj htk oG hbz
       go_quiet (first|(go_at_call 153;exact Calls.quiet_of_same (HB.out _)))
       go_wp2_with fail
       go_meet
       exact .inr ⟨rfl,HK.out.drewN _,Yo⟩
     ·have Yo:Hid (bJ (L.drop k)=kX ⟨y,ky,dy⟩++(jA ⟨y,ky,dy⟩ (bJ ((L.drop (k+1)).take (j-(k+1))))++(bM [41]++bJ (L.drop j)))):=by
       show _=_
       have hd:L.drop j=[]:=List.drop_eq_nil_of_le (by omega)
       rw[oG.out,hd]
       simp only[List.takeWhile_nil,List.dropWhile_nil,List.append_nil]
      have hd1:decide ((j:Int)<(L.length:Int))=false:=by simp;omega
      clear oG
      go_quiet (fail)
      go_wp2_with fail
      go_meet
      exact .inr ⟨rfl,HK.out.drewN _,Yo⟩
    case rest=>
     rcases hcut with⟨rfl,hjl,iP,Yp⟩|⟨rfl,iP,Yp⟩
     ·clear oG HK
      go_wp2_with fail
      go_roundg (L.length-(j+1))
      case measure=>omega
      case rel=>exact⟨j+1,rfl,by omega,by omega,by go_num,iP,Yp⟩
     ·clear oG HK
      have hcy:=HCK.out wc iP.out
      go_upto_region 11 with(fail)
      refine(yt ⟨y.toArray⟩ _ (by show y.toArray.size≤_;simp;unfold maxLen;omega)).mono ?_
      rintro e wd ⟨rfl,hkd⟩
      have kL:Hid (Keeps Non w wd):=iP.out.trans hkd (fun k hk=>.inl hk)
      clear hkd iP hcy
      rw[show(⟨y.toArray⟩:ByteArray).data.toList=y from rfl]
      have hnl:(aK y).2.length≤1099511627776:=Nat.le_trans (by have:=(J6 ⟨y.toArray⟩).2;rw[show(⟨y.toArray⟩:ByteArray).data.toList=y from rfl] at this;exact this) (by show y.toArray.size≤_;simp;omega)
      have HEN:Hid (kX ⟨y,ky,dy⟩=aC [[101,110,116,114,121],[40],[110,97,109,101],(aK y).2,[110,111,100,101]]):=rfl
      generalize aK y=DN at *
      obtain⟨dir,nm⟩:=DN
      simp only at hnl HEN ⊢
      have hpart:(L.drop k).take (j-k)=⟨y,ky,dy⟩ :: (L.drop (k+1)).take (j-(k+1)):=by
       have h1:=HGK.out
       rw[List.getElem?_eq_getElem hlt] at h1
       rw[List.drop_eq_getElem_cons hlt,Option.some.inj h1,show j-k=(j-(k+1))+1 by omega,List.take_succ_cons]
      have hpl:((L.drop k).take (j-k)).length=j-k:=by simp;omega
      have hrp:iI ((L.drop k).take (j-k))=jA ⟨y,ky,dy⟩ (bJ ((L.drop (k+1)).take (j-(k+1)))):=by rw[hpart];rfl
      have acG:Hid (bJ r=(done++(aC [[101,110,116,114,121],[40],[110,97,109,101],nm,[110,111,100,101]]++iI ((L.drop k).take (j-k))++bM [41]))++bJ (L.drop j)):=by
       show _=_
       rw[HFO.out,Yp.out,HEN.out,hrp]
       simp only[List.append_assoc]
      have hln:done.length+((aC [[101,110,116,114,121],[40],[110,97,109,101],nm,[110,111,100,101]]).length+(iI ((L.drop k).take (j-k))).length+(bM [41]).length)+(bJ (L.drop j)).length=(bJ r).length:=by
       rw[acG.out];simp only[List.length_append]
      have vF:Hid (∀w':World,Keeps Non w w'→Calls Tryz.prog 127 #[.slice (some ⟨b,off+k*3,none⟩) (j-k) (cap-k)] w' fun e w''=>e=.returned (.string ⟨(iI ((L.drop k).take (j-k))).toArray⟩)∧Keeps Non w w''∧Keeps Non w' w''):=by
       intro w' hk'
       have hcells:ak ((L.drop k).take (j-k))=((ak L).drop (k*3)).take ((j-k)*3):=by
        have key:∀(a c:List Node),(ak (a++c)).take (a.length*3)=ak a∧(ak (a++c)).drop (a.length*3)=ak c:=by
         intro a c
         rw[gW,←oK]
         exact⟨List.take_left,List.drop_left⟩
        have e1:=(key (L.take k) (L.drop k)).2
        rw[List.take_append_drop,List.length_take,Nat.min_eq_left (by omega)] at e1
        have e2:=(key ((L.drop k).take (j-k)) ((L.drop k).drop (j-k))).1
        rw[List.take_append_drop,hpl] at e2
        rw[e1,e2]
       have hcut:=(HV.out.non hk').cut (lo:=k) (hi:=j) (by omega) hj
       rw[←hcells] at hcut
       refine(HIH.out ((L.drop k).take (j-k)) _ w' (by omega) (by rw[hpart];simp) (by rw[hpl];exact hcut) (fun n hn=>qg.out n (List.mem_of_mem_drop (List.mem_of_mem_take hn))) (by omega)).mono ?_
       rintro e w2 ⟨rfl,hk2⟩
       exact⟨rfl,hk'.trans hk2 (fun k hk=>.inl hk),hk2⟩
      have HST:Hid (∀(w':World) (sz:Nat),aS w' sz #[.string ⟨#[101,110,116,114,121]⟩,.string ⟨#[40]⟩,.string ⟨#[110,97,109,101]⟩,.string ⟨nm.toArray⟩,.string ⟨#[110,111,100,101]⟩] 9→Keeps Non w w'→
       Calls Tryz.prog 106 #[.slice (some ⟨sz,0,none⟩) 5 5] w' fun e w''=>e=.returned (.string ⟨(aC [[101,110,116,114,121],[40],[110,97,109,101],nm,[110,111,100,101]]).toArray⟩)∧Keeps Non w w''):=by
       intro w' sz hb hk'
       refine(mZ _ [[101,110,116,114,121],[40],[110,97,109,101],nm,[110,111,100,101]] w' (N8 5 [[101,110,116,114,121],[40],[110,97,109,101],nm,[110,111,100,101]] hb rfl rfl (by simp)) (by simp) ?_).mono ?_
       ·simp only[roomOf,List.map_cons,List.sum_cons,List.length_cons,List.length_nil,List.map_nil,List.sum_nil];omega
       ·rintro e w2 ⟨rfl,hk2⟩
        exact⟨rfl,hk'.trans hk2 (fun k hk=>.inl hk)⟩
      have Zz:Hid (∀(w':World),Keeps Non w w'→Calls Tryz.prog 104 #[.string ⟨#[41]⟩] w' fun e w''=>e=.returned (.string ⟨(bM [41]).toArray⟩)∧Keeps Non w w''∧Keeps Non w' w''):=fun w' hk'=>(HW.out w').mono fun e w2 ⟨he,hk2⟩=>⟨he,hk'.trans hk2 (fun k hk=>.inl hk),hk2⟩
      have q1:IntKind.i64.wrap (j:Int)=(j:Int):=IntWalk.i64_in _ (by omega)
      have q2:(0:Int)≤(j:Int):=by omega
      have q3:(j:Int)≤(L.length:Int):=by omega
      have q4:IntKind.i64.wrap (k:Int)=(k:Int):=IntWalk.i64_in _ (by omega)
      have q5:(0:Int)≤(k:Int):=by omega
      have q6:(k:Int)≤(j:Int):=by omega
      have q7:¬cap=k:=by omega
      clear hpart hrp Yp HFO hdl HCK HGK HY HEN
      unfold sv
      go_wp2_with fail
      have hc:=kL.out
      go_region_with (first
       |(go_at_call 104;refine(Zz.out _ (by first|exact hc|exact hc.alloc _|exact(hc.alloc _).drew|exact hc.drew|exact(hc.drew).alloc _)).mono ?_;clear hc;rintro e w' ⟨rfl,hc,hkS⟩)
       |(go_at_call 127;refine(vF.out _ (by first|exact hc|exact hc.alloc _|exact(hc.alloc _).drew|exact hc.drew|exact(hc.drew).alloc _)).mono ?_;clear hc;rintro e w' ⟨rfl,hc,hkP⟩)
       |(go_at_call 106;refine(HST.out _ _ (by first|exact aS.new _ _ _|exact(aS.new _ _ _).drew|exact(aS.new _ _ _).keeps hkP (fun h=>h)|exact(aS.new _ _ _).keeps hkS (fun h=>h)|exact(aS.new _ _ _).drew.keeps hkP (fun h=>h)|exact(aS.new _ _ _).drew.keeps hkS (fun h=>h)|exact((aS.new _ _ _).keeps hkP (fun h=>h)).keeps hkS (fun h=>h)|exact((aS.new _ _ _).keeps hkS (fun h=>h)).keeps hkP (fun h=>h)|exact((aS.new _ _ _).drew.keeps hkP (fun h=>h)).keeps hkS (fun h=>h)|exact((aS.new _ _ _).drew.keeps hkS (fun h=>h)).keeps hkP (fun h=>h)) (by first|exact hc|exact hc.alloc _|exact(hc.alloc _).drew|exact hc.drew|exact(hc.drew).alloc _)).mono ?_;clear hc;rintro e w' ⟨rfl,hc⟩))
      all_goals (
       have X3:Hid (Keeps Non w w'):=(by first|exact hc|exact hc.drew)
       clear hc
       go_wp2_with fail
       go_roundg (L.length-j))
      all_goals first
       |(case measure=>omega)
       |(case rel=>exact⟨j,done++(aC [[101,110,116,114,121],[40],[110,97,109,101],nm,[110,111,100,101]]++iI ((L.drop k).take (j-k))++bM [41]),rfl,by omega,hj,rfl,by rw[dW,dW,dW,List.append_assoc T2],X3,acG⟩)
  ·have HF:Hid (iI L=T2++done++bM [41]):=by
    show _=_
    rw[hP1.out,HFO.out,List.drop_eq_nil_of_le (by omega)]
    have:bJ []=[]:=rfl
    rw[this,List.append_nil]
   clear HFO
   go_wp2_with fail
   refine(HW.out _).mono ?_
   rintro e w5 ⟨rfl,hk5⟩
   have ng:Hid (Keeps Non w w5):=HK.out.trans hk5 (fun k hk=>.inl hk)
   clear hk5
   go_wp2_with fail
   go_ret
   exact⟨yR (by rw[dW,HF.out]),ng.out⟩
end Go.Proofs.YtdkogijdfgfpeaaGreatDoor

/- narref: strings with their lengths. -/
import Derived.Test.YtdkogijdfgfpeaaGreatDoorZPack
set_option linter.unusedVariables false
namespace Go.Proofs.YtdkogijdfgfpeaaGreatDoor
open Go Go.RowKit
set_option maxHeartbeats 8000000
set_option maxRecDepth 100000
theorem UF(n k:Nat):leB n k=UInt8.ofNat (n / 256 ^ k % 256):=by
 unfold leB
 rw[show 256 ^ k=2 ^ (8*k) by rw[Nat.pow_mul]]
theorem UG(n k:Nat)(h:k<8):(⟨((yL n).take k).toArray⟩:ByteArray)++⟨#[UInt8.ofNat (n / 256 ^ k % 256)]⟩=⟨((yL n).take (k+1)).toArray⟩:=by
 rw[JU _ _ h,UF]
 apply ByteArray.ext
 rw[ByteArray.data_append]
 simp
theorem dW(a b:List UInt8):(⟨a.toArray⟩:ByteArray)++⟨b.toArray⟩=⟨(a++b).toArray⟩:=by
 apply ByteArray.ext
 rw[ByteArray.data_append]
 simp
theorem Ym(n:Nat)(w:World)(hn:n≤maxLen):
 Calls Tryz.prog 126 #[.int .i64 n] w fun e w'=>e=.returned (.string ⟨(yL n).toArray⟩)∧Keeps Non w w':=by
 unfold maxLen at hn
 have kc:=fun(w:World) (n:Int)=>vH (P:=Tryz.prog) 45 5 Tryz.underlying45 Tryz.underlying5 9 Tryz.underlying9 5 w n
 go_enter Tryz.func126,Tryz.ntmps126
 go_wp2
 go_loopw [0,3,4] (fun a s i wr=>∃k:Nat,k≤8∧i=.int .i64 k∧a=.int .i64 ((n / 256 ^ k:Nat):Int)∧s=.string ⟨((yL n).take k).toArray⟩∧Keeps Non w wr) (fun _ _ i _=>8-(intOf i).toNat)
 case atStart=>exact⟨0,by omega,rfl,by simp,rfl,Keeps.refl _ _⟩
 case round=>
  obtain⟨k,hk,rfl,rfl,rfl,hkp⟩:=hrel
  have HK:=Lib.hid hkp
  clear hkp
  by_cases hlt:k<8
  ·have hm:n / 256 ^ k≤n:=Nat.div_le_self _ _
   have hsz:(⟨((yL n).take k).toArray⟩:ByteArray).size≤8:=by show((yL n).take k).toArray.size≤8;simp;omega
   have HT:=Lib.hid (UG n k hlt)
   have HD:=Lib.hid (show n / 256 ^ (k+1)=n / 256 ^ k / 256 by rw[Nat.pow_succ,Nat.div_div_eq_div_mul])
   generalize hq:n / 256 ^ k=q at *
   clear hq
   go_wp2
   go_roundw
   case rel=>exact⟨k+1,by omega,by go_num,by rw[HD.out];simp,congrArg Value.string HT.out,HK.out.alloc _⟩
   case measure=>simp[intOf];omega
  ·obtain rfl:k=8:=by omega
   rw[P7]
   go_wp2
   go_ret
   exact⟨rfl,HK.out⟩
theorem qH(s:List UInt8)(w:World)(hs:s.length≤70368744177664):
 Calls Tryz.prog 104 #[.string ⟨s.toArray⟩] w fun e w'=>e=.returned (.string ⟨(bM s).toArray⟩)∧Keeps Non w w':=by
 go_enter Tryz.func104,Tryz.ntmps104
 go_wp2_with fail
 refine(Ym s.length w (by unfold maxLen;omega)).mono ?_
 rintro e w1 ⟨rfl,hk⟩
 have HK:=Lib.hid hk
 clear hk
 have UH:(yL s.length).length=8:=by simp[yL]
 have HST:Hid ((⟨(yL s.length).toArray⟩:ByteArray)++⟨s.toArray⟩=⟨(yL s.length++s).toArray⟩):=dW _ _
 go_wp2_with fail
 rw[HST.out]
 go_loopg [3] (dN s.length) (fun gk o wr=>∃(j:Nat) (L:List UInt8),gk+j=dN s.length∧w1=wr∧o=.string ⟨L.toArray⟩∧L.length=8+s.length+j∧Hid (L=yL s.length++s++List.replicate j 0))
 case atStart=>exact⟨0,_,rfl,rfl,rfl,by simp[UH],by show _=_;simp⟩
 case round=>
  obtain⟨j,L,hj,rfl,rfl,hL,hLe⟩:=hrel
  clear HST
  have Qd:=lK s.length
  have HJ:=Lib.hid hj
  have hL2:L.length≤140737488355328:=by omega
  have HLL:=Lib.hid hL
  by_cases h:gk=0
  ·have hb:((L.length:Int) % 8==0)=true:=by
    rw[beq_iff_eq];unfold dN at hj;omega
   have hb2:((L.length:Int) % 8 !=0)=false:=by unfold bne;rw[hb];rfl
   have HF:Hid (L=bM s):=by
    show _=_
    rw[hLe.out]
    unfold bM
    rw[show j=dN s.length by omega]
   clear h hj hL
   go_wp2_with fail
   go_ret
   rw[HF.out]
   exact⟨rfl,HK.out⟩
  ·have hb:((L.length:Int) % 8==0)=false:=by
    rw[beq_eq_false_iff_ne];unfold dN at hj;omega
   have hb2:((L.length:Int) % 8 !=0)=true:=by unfold bne;rw[hb];rfl
   have HA:Hid ((⟨L.toArray⟩:ByteArray)++⟨#[0]⟩=⟨(L++[0]).toArray⟩):=dW L [0]
   have hg:gk-1<gk:=by omega
   have hg2:gk-1+(j+1)=dN s.length:=by omega
   have HG2:=Lib.hid hg2
   clear h hj hg2 hL
   go_wp2_with fail
   rw[HA.out]
   go_roundg (gk-1)
   case measure=>exact hg
   case rel=>exact⟨j+1,L++[0],HG2.out,rfl,rfl,by have:=HLL.out;simp;omega,by show _=_;rw[hLe.out,List.replicate_succ',←List.append_assoc]⟩
theorem mZ(v:Value)(l:List (List UInt8))(w:World)(hv:Sl w 0 9 1 v l.length (bf l))(hl:0<l.length)(hr:roomOf l≤70368744177664):
 Calls Tryz.prog 106 #[v] w fun e w'=>e=.returned (.string ⟨(aC l).toArray⟩)∧Keeps Non w w':=by
 obtain⟨b,off,cap,rfl,-,hnc,hcm,hbl,hc,-⟩:=hv.pos hl
 unfold maxLen at hcm
 have HC:Hid (∀k,k<l.length→w.cell? ⟨b,off+k,none⟩=some (sv (l.getD k []))):=fun k hk=>by
  rw[hc k (by omega)];simp[bf,List.getD,List.getElem?_eq_getElem hk]
 clear hc hv
 go_enter Tryz.func106,Tryz.ntmps106
 go_wp2
 go_loopw [3,5,8] (fun o _ i wr=>∃k:Nat,k≤l.length∧i=.int .i64 k∧o=.string ⟨(aC (l.take k)).toArray⟩∧Keeps Non w wr) (fun _ _ i _=>l.length-(intOf i).toNat)
 case atStart=>exact⟨0,by omega,rfl,rfl,Keeps.refl _ _⟩
 case round=>
  obtain⟨k,hk,rfl,rfl,hkp⟩:=hrel
  have HK:=Lib.hid hkp
  by_cases hlt:k<l.length
  ·have hcell:wr.cell? ⟨b,off+k,none⟩=some (sv (l.getD k [])):=((hkp.below (Nat.le_refl _) (fun _ _ h=>h)).cell (p:=⟨b,off+k,none⟩) hbl).trans (HC.out k hlt)
   have hroom:=Bh l k hlt
   have hput:=dL (l.take k)
   have hge:l.getD k []=l[k]:=by simp[List.getD,List.getElem?_eq_getElem hlt]
   rw[hge] at hcell
   have QO:Hid ((⟨(aC (l.take k)).toArray⟩:ByteArray)++⟨(bM l[k]).toArray⟩=⟨(aC (l.take (k+1))).toArray⟩):=by
    show _=_
    rw[dW,Bg l k hlt]
   clear hge hkp
   generalize hx:l[k]=x at *
   generalize hy:aC (l.take k)=y at *
   have hpl:=gZ x
   have hpn:=lK x.length
   have hpx:(bM x).length≤x.length+16:=by omega
   unfold sv at hcell
   clear hpl hpn hx hy
   go_wp2_with fail
   refine(qH x wr (by omega)).mono ?_
   rintro e w1 ⟨rfl,hk1⟩
   have iy:=Lib.hid (HK.out.trans hk1 (fun k hk=>.inl hk))
   clear hk1 HK
   go_wp2_with fail
   rw[QO.out]
   go_roundw
   case rel=>exact⟨k+1,by omega,by go_num,rfl,iy.out⟩
   case measure=>simp[intOf];omega
  ·obtain rfl:k=l.length:=by omega
   rw[List.take_length]
   clear hkp
   go_wp2
   go_ret
   exact⟨rfl,HK.out⟩
theorem wQ{a:ByteArray}{l:List UInt8}(h:a.data.toList=l):a=⟨l.toArray⟩:=by
 apply ByteArray.ext;apply Array.ext';simpa using h
theorem yt(s:ByteArray)(w:World)(hs:s.size≤maxLen):
 Calls Tryz.prog 150 #[.string s] w fun e w'=>e=.returned (.tuple #[sv (aK s.data.toList).1,sv (aK s.data.toList).2])∧Keeps Non w w':=by
 unfold maxLen at hs
 go_enter Tryz.func150,Tryz.ntmps150
 go_wp2
 go_loop [4] (fun i=>∃k:Nat,k≤s.size∧i=.int .i64 ((k:Int)-1)∧Hid (lastIdx s.data.toList 47=iT s.data.toList 47 k)) (fun i=>(intOf i+1).toNat)
 case atStart=>exact⟨s.size,Nat.le_refl _,rfl,rfl⟩
 case round=>
  obtain⟨k,hk,rfl,hl⟩:=hrel
  by_cases h0:k=0
  ·subst h0
   have HF:Hid (aK s.data.toList=([],s.data.toList)):=by
    show _=_
    unfold aK
    rw[if_neg (by rw[hl.out];simp[iT])]
   go_wp2
   go_ret2
   rw[HF.out]
   exact⟨by rw[wQ (a:=s) rfl];rfl,Keeps.refl _ _⟩
  ·obtain⟨j,rfl⟩:∃j,k=j+1:=⟨k-1,by omega⟩
   clear h0
   have e1:((j+1:Nat):Int)-1=(j:Int):=by omega
   rw[e1]
   have hlt:j<s.size:=by omega
   by_cases hc:s[j]=47
   ·have hb:((s[j].toNat:Int)==47)=true:=by rw[hc];rfl
    have HL:=Lib.hid (show s.data.toList[j]? =some 47 by rw[←hc];exact List.getElem?_eq_getElem (by simpa using hlt))
    have HI:Hid (lastIdx s.data.toList 47=(j:Int)):=by show _=_;rw[hl.out,iT,if_pos HL.out]
    have HF:Hid (aK s.data.toList=(s.data.toList.take j,s.data.toList.drop (j+1))):=by
     show _=_
     unfold aK
     rw[if_pos (by rw[HI.out];omega),HI.out]
     rfl
    have UJ:Hid (s.extract 0 j=⟨(s.data.toList.take j).toArray⟩):=by
     show _=_
     apply wQ;rw[ext_list];simp
    have HE2:Hid (s.extract (j+1) s.size=⟨(s.data.toList.drop (j+1)).toArray⟩):=by
     show _=_
     apply wQ;rw[ext_list,List.take_of_length_le (by simp)]
    clear hc hl
    go_wp2_with fail
    have q1:IntKind.i64.wrap ((j:Int)+1)=(j:Int)+1:=IntWalk.i64_in _ (by omega)
    go_quiet (fail)
    go_wp2_with fail
    go_ret2
    rw[HF.out,UJ.out,HE2.out]
    exact⟨rfl,(Keeps.refl _ _).drewN _⟩
   ·have hb:((s[j].toNat:Int)==47)=false:=by
     rw[beq_eq_false_iff_ne];intro e;exact hc (UInt8.toNat_inj.1 (show s[j].toNat=47 by omega))
    have HL:=Lib.hid (show ¬s.data.toList[j]? =some 47 by rw[List.getElem?_eq_getElem (by simpa using hlt)];intro e;exact hc (Option.some.inj e))
    clear hc
    go_wp2
    go_round
    case rel=>exact⟨j,by omega,by go_num,(show lastIdx s.data.toList 47=iT s.data.toList 47 j by rw[hl.out,iT,if_neg HL.out])⟩
    case measure=>simp[intOf]
def lV(p:List UInt8):Nat:=if p=[] then 0 else 1+p.countP (· == 47)
theorem JZ(s:ByteArray)(k:Nat)(h:k<s.size):(s.data.toList.take (k+1)).countP (· == 47)=(s.data.toList.take k).countP (· == 47)+(if s[k]==47 then 1 else 0):=by
 have hl:k<s.data.toList.length:=by simpa using h
 rw[List.take_succ_eq_append_getElem hl,List.countP_append,List.countP_singleton]
 rfl
theorem NW(s:ByteArray)(w:World)(hs:s.size≤4611686018427387904):
 Calls Tryz.prog 152 #[.string s] w fun e w'=>e=.returned (.int .i64 (lV s.data.toList))∧w=w':=by
 by_cases h0:s.data.toList=[]
 ·have hb:s.toList.isEmpty=true:=by rw[ByteArray.toList_eq,h0];rfl
  have HF:Hid (lV s.data.toList=0):=by show _=_;unfold lV;rw[if_pos h0]
  clear h0
  go_enter Tryz.func152,Tryz.ntmps152
  go_wp2_with fail
  go_ret
  rw[HF.out]
  exact⟨rfl,rfl⟩
 ·have hb:s.toList.isEmpty=false:=by rw[ByteArray.toList_eq];simpa using h0
  have HF:Hid (lV s.data.toList=1+s.data.toList.countP (· == 47)):=by show _=_;unfold lV;rw[if_neg h0]
  clear h0
  go_enter Tryz.func152,Tryz.ntmps152
  go_wp2_with fail
  clear hb
  go_loop [3,4] (fun n i=>∃(k c:Nat),k≤s.size∧i=.int .i64 k∧n=.int .i64 (1+(c:Int))∧c≤k∧Hid (c=(s.data.toList.take k).countP (· == 47))) (fun _ i=>s.size-(intOf i).toNat)
  case atStart=>exact⟨0,0,by omega,rfl,rfl,by omega,rfl⟩
  case round=>
   obtain⟨k,c,hk,rfl,rfl,hck,hc⟩:=hrel
   by_cases hlt:k<s.size
   ·have HS:=Lib.hid (JZ s k hlt)
    by_cases h47:s[k]=47
    ·have hb:((s[k].toNat:Int)==47)=true:=by rw[h47];rfl
     have HC:Hid (c+1=(s.data.toList.take (k+1)).countP (· == 47)):=by show _=_;rw[HS.out,←hc.out,h47];rfl
     clear h47 HS hc
     go_wp2_with fail
     go_round
     case rel=>exact⟨k+1,c+1,by omega,by go_num,by congr 1,by omega,HC⟩
     case measure=>simp[intOf];omega
    ·have hb:((s[k].toNat:Int)==47)=false:=by
      rw[beq_eq_false_iff_ne];intro e;exact h47 (UInt8.toNat_inj.1 (show s[k].toNat=47 by omega))
     have HC:Hid (c=(s.data.toList.take (k+1)).countP (· == 47)):=by show _=_;rw[HS.out,←hc.out,if_neg (by simpa using h47),Nat.add_zero]
     clear h47 HS hc
     go_wp2_with fail
     go_round
     case rel=>exact⟨k+1,c,by omega,by go_num,rfl,by omega,HC⟩
     case measure=>simp[intOf];omega
   ·have HC:Hid (c=s.data.toList.countP (· == 47)):=by
     have:=hc.out
     rwa [List.take_of_length_le (by simp;omega)] at this
    clear hc
    go_wp2_with fail
    go_ret
    rw[HF.out,←HC.out]
    exact⟨jU (by omega),rfl⟩
def aQ(p d:List UInt8):Bool:=if d=[] then !p.isEmpty else decide (d.length<p.length)&&(p.take (d.length+1)==d++[47])
theorem yu(p d:ByteArray)(w:World)(hd:d.size<9223372036854775807)(hp:p.size≤4611686018427387904):
 Calls Tryz.prog 153 #[.string p,.string d] w fun e w'=>e=.returned (.bool (aQ p.data.toList d.data.toList))∧w=w':=by
 by_cases h0:d.data.toList=[]
 ·have hb:d.toList.isEmpty=true:=by rw[ByteArray.toList_eq,h0];rfl
  have HF:Hid (aQ p.data.toList d.data.toList= !p.toList.isEmpty):=by show _=_;unfold aQ;rw[if_pos h0,ByteArray.toList_eq]
  clear h0
  go_enter Tryz.func153,Tryz.ntmps153
  go_wp2_with fail
  go_ret
  exact⟨aF HF.out.symm,rfl⟩
 ·have hb:d.toList.isEmpty=false:=by rw[ByteArray.toList_eq];simpa using h0
  by_cases hl:d.size<p.size
  ·have HF:Hid (aQ p.data.toList d.data.toList=((p.data.toList.take (d.size+1))==d.data.toList++[47])):=by
    show _=_
    unfold aQ
    rw[if_neg h0,dlen,dlen,decide_eq_true hl]
    rfl
   have q1:IntKind.i64.wrap ((d.size:Int)+1)=(d.size:Int)+1:=IntWalk.i64_in _ (by omega)
   clear h0
   go_enter Tryz.func153,Tryz.ntmps153
   go_wp2_with fail
   go_ret
   refine⟨aF ?_,rfl⟩
   rw[HF.out]
   first |(rw[ByteArray.toList_eq,ByteArray.toList_eq,ext_list,ByteArray.data_append,Array.toList_append];rfl)|(simp only[ByteArray.toList_eq,ext_list];trace_state;rfl)|trace_state
  ·have HF:Hid (aQ p.data.toList d.data.toList=false):=by
    show _=_
    unfold aQ
    rw[if_neg h0,dlen,dlen,decide_eq_false hl]
    rfl
   have hl2:decide ((d.size:Int)<(p.size:Int))=false:=by simp;omega
   clear h0
   go_enter Tryz.func153,Tryz.ntmps153
   go_wp2_with fail
   go_ret
   exact⟨aF HF.out.symm,rfl⟩
theorem IW(c:UInt8):∀l:List UInt8,Lib.indexByte l c<0↔c∉l
 | []=>by simp[Lib.indexByte]
 |b :: l=>by
  have ih:=IW c l
  have hg:=Lib.indexByte_ge l c
  unfold Lib.indexByte
  by_cases hb:b=c
  ·subst hb;simp
  ·rw[if_neg (by simpa using hb)]
   by_cases hm:Lib.indexByte l c= -1
   ·rw[if_pos (by simpa using hm)]
    have:c∉l:=ih.1 (by omega)
    simp[this,Ne.symm hb]
   ·rw[if_neg (by simpa using hm)]
    have:c∈l:=by
     apply Classical.byContradiction
     intro h
     have:=ih.2 h
     omega
    simp[this]
    omega
theorem rE(k:Int)(s:ByteArray)(w:World)(hs:s.size≤maxLen):
 Calls Tryz.prog 149 #[.int .i64 k,.string s] w fun e w'=>e=.returned (.bool (aZ k s.data.toList))∧w=w':=by
 unfold maxLen at hs
 have hlen:s.data.toList.length=s.size:=dlen s
 by_cases h3:k=3
 ·subst h3
  have HL:=Lib.hid hlen
  clear hlen
  go_enter Tryz.func149,Tryz.ntmps149
  go_wp2_with fail
  go_loop [5] (fun i=>∃j:Nat,j≤s.size∧i=.int .i64 j∧Hid ((0:UInt8)∉s.data.toList.take j)) (fun i=>s.size-(intOf i).toNat)
  case atStart=>exact⟨0,by omega,rfl,by show _∉_;simp⟩
  case round=>
   obtain⟨j,hj,rfl,hz⟩:=hrel
   by_cases hlt:j<s.size
   ·have hlt':j<s.data.toList.length:=by simpa using hlt
    by_cases h0:s[j]=0
    ·have hb:((s[j].toNat:Int)==0)=true:=by rw[h0];rfl
     have HF:Hid (aZ 3 s.data.toList=false):=by
      show _=_
      have hm:(0:UInt8)∈s.data.toList:=by rw[←h0];exact List.getElem_mem hlt'
      have hn:¬Lib.indexByte s.data.toList 0<0:=fun h=>(IW 0 _).1 h hm
      unfold aZ
      rw[if_pos rfl,decide_eq_false hn,Bool.and_false]
     clear h0 hz
     go_wp2_with fail
     go_ret
     exact⟨aF HF.out.symm,rfl⟩
    ·have hb:((s[j].toNat:Int)==0)=false:=by
      rw[beq_eq_false_iff_ne];intro e;exact h0 (UInt8.toNat_inj.1 (show s[j].toNat=0 by omega))
     have HZ:Hid ((0:UInt8)∉s.data.toList.take (j+1)):=by
      show _∉_
      rw[List.take_succ_eq_append_getElem hlt',List.mem_append,List.mem_singleton]
      rintro (h|h)
      ·exact hz.out h
      ·exact h0 h.symm
     clear h0 hz
     go_wp2_with fail
     go_round
     case rel=>exact⟨j+1,by omega,by go_num,HZ⟩
     case measure=>simp[intOf];omega
   ·have HF:Hid (aZ 3 s.data.toList=(decide (1≤(s.size:Int))&&decide ((s.size:Int)≤100))):=by
     show _=_
     have hm:(0:UInt8)∉s.data.toList:=by
      have:=hz.out
      rwa [List.take_of_length_le (by rw[HL.out];omega)] at this
     unfold aZ
     rw[if_pos rfl,decide_eq_true ((IW 0 _).2 hm),Bool.and_true,HL.out]
     have:s.data.toList.isEmpty=decide (s.size=0):=by
      rw[←HL.out]
      cases s.data.toList <;> simp
     rw[this]
     congr 1
     ·rcases Nat.eq_zero_or_pos s.size with h|h
      ·rw[h];rfl
      ·rw[decide_eq_false (by omega),decide_eq_true (by omega)];rfl
     ·exact decide_eq_decide.2 (by omega)
    clear hz
    by_cases h1:1≤s.size
    ·have hd:decide ((1:Int)≤(s.size:Int))=true:=by simp;omega
     go_wp2_with fail
     go_ret
     rw[HF.out]
     exact⟨aF (by simp;omega),rfl⟩
    ·have hd:decide ((1:Int)≤(s.size:Int))=false:=by simp;omega
     go_wp2_with fail
     go_ret
     rw[HF.out]
     exact⟨aF (by rw[hd];rfl),rfl⟩
 ·have n3:(k==3)=false:=beq_eq_false_iff_ne.2 h3
  by_cases h4:k=4
  ·subst h4
   have HF:Hid (aZ 4 s.data.toList=s.toList.isEmpty):=by show _=_;rw[ByteArray.toList_eq];rfl
   clear h3 hlen
   go_enter Tryz.func149,Tryz.ntmps149
   go_wp2_with fail
   go_ret
   exact⟨aF HF.out.symm,rfl⟩
  ·have n4:(k==4)=false:=beq_eq_false_iff_ne.2 h4
   by_cases h2:k=2
   ·subst h2
    have HF:Hid (aZ 2 s.data.toList=decide ((s.size:Int)≤100)):=by show _=_;unfold aZ;rw[hlen];simp;omega
    clear h3 h4 hlen
    go_enter Tryz.func149,Tryz.ntmps149
    go_wp2_with fail
    go_ret
    exact⟨aF HF.out.symm,rfl⟩
   ·have n2:(k==2)=false:=beq_eq_false_iff_ne.2 h2
    by_cases h1:k=1
    ·subst h1
     have HF:Hid (aZ 1 s.data.toList=decide ((s.size:Int)≤100)):=by show _=_;unfold aZ;rw[hlen];simp;omega
     clear h3 h4 h2 hlen
     go_enter Tryz.func149,Tryz.ntmps149
     go_wp2_with fail
     go_ret
     exact⟨aF HF.out.symm,rfl⟩
    ·have n1:(k==1)=false:=beq_eq_false_iff_ne.2 h1
     have HF:Hid (aZ k s.data.toList=false):=by show _=_;unfold aZ;simp[h1,h2,h3,h4]
     clear h1 h2 h3 h4 hlen
     go_enter Tryz.func149,Tryz.ntmps149
     go_wp2_with fail
     go_ret
     exact⟨aF HF.out.symm,rfl⟩
def jg(b:Nat):Option (Nat×Nat):=
 if b<32∨b=47∨b=127 then none
 else if b<128 then some (0,b)
 else if 194≤b∧b<224 then some (1,b % 32)
 else if 224≤b∧b<240 then some (2,b % 16)
 else if 240≤b∧b<245 then some (3,b % 8)
 else none
def dS:Nat→List UInt8→Nat→Option Nat
 |0,_,c=>some c
 |_+1,[],_=>none
 |m+1,b :: r,c=>if b.toNat<128∨191<b.toNat then none else dS m r (64*c+b.toNat % 64)
def pF(m c:Nat):Bool:=decide (m=2∧(c<2048∨(55296≤c∧c<57344)))||decide (m=3∧(c<65536∨1114111<c))
def letter:List UInt8→Option Nat
 | []=>none
 |b :: r=>match jg b.toNat with
  |none=>none
  |some (m,c)=>match dS m r c with
   |none=>none
   |some c'=>if pF m c' then none else some (1+m)
def qI:Nat→List UInt8→Nat→Option Nat
 |0,_,n=>some n
 |f+1,l,n=>if l=[] then some n else match letter l with
  |none=>none
  |some k=>qI f (l.drop k) (n+1)
theorem qJ{b:UInt8}{r:List UInt8}(h:jg b.toNat=none):letter (b :: r)=none:=by
 unfold letter
 simp only[h]
theorem jK{b:UInt8}{r:List UInt8}{m c:Nat}(h:jg b.toNat=some (m,c))(h2:dS m r c=none):letter (b :: r)=none:=by
 unfold letter
 simp only[h,h2]
theorem iq{b:UInt8}{r:List UInt8}{m c c':Nat}(h:jg b.toNat=some (m,c))(h2:dS m r c=some c'):letter (b :: r)=if pF m c' then none else some (1+m):=by
 unfold letter
 simp only[h,h2]
theorem uf{l:List UInt8}{k:Nat}(h:letter l=some k):1≤k:=by
 unfold letter at h
 split at h
 ·cases h
 ·split at h
  ·cases h
  ·split at h
   ·cases h
   ·split at h
    ·cases h
    ·cases h;omega
theorem xX:∀(f g:Nat) (l:List UInt8) (n:Nat),l.length≤f→l.length≤g→qI f l n=qI g l n
 |0,g,l,n,hf,_=>by
  obtain rfl:l=[]:=List.eq_nil_of_length_eq_zero (by omega)
  cases g <;> simp[qI]
 |f+1,0,l,n,_,hg=>by
  obtain rfl:l=[]:=List.eq_nil_of_length_eq_zero (by omega)
  simp[qI]
 |f+1,g+1,l,n,hf,hg=>by
  unfold qI
  by_cases h:l=[]
  ·rw[if_pos h,if_pos h]
  ·rw[if_neg h,if_neg h]
   cases hl:letter l with
   |none=>rfl
   |some k=>
    have:=uf hl
    exact xX f g _ _ (by rw[List.length_drop];omega) (by rw[List.length_drop];omega)
def lettersOf(l:List UInt8)(n:Nat):Option Nat:=qI l.length l n
theorem nK(l:List UInt8)(n:Nat)(h:l≠[]):lettersOf l n=match letter l with
  |none=>none
  |some k=>lettersOf (l.drop k) (n+1):=by
 obtain⟨f,hf⟩:∃f,l.length=f+1:=⟨l.length-1,by have:=List.length_pos_iff.2 h;omega⟩
 unfold lettersOf
 rw[hf]
 show(if l=[] then _ else _)=_
 rw[if_neg h]
 cases hl:letter l with
 |none=>rfl
 |some k=>
  have:=uf hl
  exact xX _ _ _ _ (by rw[List.length_drop];omega) (Nat.le_refl _)
def je(l:List UInt8):Bool:=match lettersOf l 0 with
 |none=>false
 |some n=>decide (1≤n)&&decide (n≤12)&&l !=[46]&&l !=[46,46]
def Dt(o:Option Nat):Value:=.tuple #[.int .i64 ((o.getD 0:Nat):Int),.bool o.isSome]
theorem nM(s:ByteArray)(w:World)(hs:s.size≤4611686018427387904):
 Calls Tryz.prog 166 #[.string s] w fun e w'=>e=.returned (Dt (lettersOf s.data.toList 0))∧Keeps Non w w':=by
 go_enter Tryz.func166,Tryz.ntmps166
 go_wp2_with fail
 go_loopg [4,5,6,7,8] s.size (fun gk nn ii _ _ _ wr=>∃(i n:Nat),gk=s.size-i∧i≤s.size∧n≤i∧nn=.int .i64 n∧ii=.int .i64 i∧w=wr∧Hid (lettersOf s.data.toList 0=lettersOf (s.data.toList.drop i) n))
 case atStart=>exact⟨0,0,rfl,by omega,by omega,rfl,rfl,rfl,rfl⟩
 case round=>
  obtain⟨i,n,rfl,hi,hni,rfl,rfl,rfl,hl⟩:=hrel
  by_cases hlt:i<s.size
  ·have hlt':i<s.data.toList.length:=by simpa using hlt
   have hstep:lettersOf s.data.toList 0=match letter (s[i] :: s.data.toList.drop (i+1)) with
    |none=>none
    |some k=>lettersOf ((s[i] :: s.data.toList.drop (i+1)).drop k) (n+1):=by
    rw[hl.out,List.drop_eq_getElem_cons hlt']
    exact nK _ _ (by simp)
   have HS:=Lib.hid hstep
   clear hl hstep
   have hx:=UInt8.toNat_lt s[i]
   by_cases hbad:s[i].toNat<32∨s[i].toNat=47∨s[i].toNat=127
   ·have HM:Hid (jg s[i].toNat=none):=by show _=_;unfold jg;rw[if_pos hbad]
    have HF:Hid (lettersOf s.data.toList 0=none):=by
     show _=_
     rw[HS.out,qJ HM.out]
    by_cases h32:s[i].toNat<32
    ·clear hbad
     have t0:decide (((s[i].toNat:Nat):Int)<32)=true:=by simp;omega
     have u0:decide (s[i].toNat<32)=true:=by simp;omega
     go_wp2_with fail
     go_ret2
     rw[HF.out]
     exact⟨rfl,Keeps.refl _ _⟩
    ·by_cases h47:s[i].toNat=47
     ·clear hbad
      have t0:decide (((s[i].toNat:Nat):Int)<32)=false:=by simp;omega
      have u0:decide (s[i].toNat<32)=false:=by simp;omega
      have t1:(((s[i].toNat:Nat):Int)==47)=true:=by rw[beq_iff_eq];omega
      clear h47
      go_wp2_with fail
      go_ret2
      rw[HF.out]
      exact⟨rfl,Keeps.refl _ _⟩
     ·have h127:s[i].toNat=127:=by omega
      clear hbad
      have t0:decide (((s[i].toNat:Nat):Int)<32)=false:=by simp;omega
      have u0:decide (s[i].toNat<32)=false:=by simp;omega
      have t1:(((s[i].toNat:Nat):Int)==47)=false:=by rw[beq_eq_false_iff_ne];omega
      have t2:(((s[i].toNat:Nat):Int)==127)=true:=by rw[beq_iff_eq];omega
      clear h127 h47
      go_wp2_with fail
      go_ret2
      rw[HF.out]
      exact⟨rfl,Keeps.refl _ _⟩
   ·have akY:¬s[i].toNat<32:=by omega
    have akZ:¬s[i].toNat=47:=by omega
    have aiO:¬s[i].toNat=127:=by omega
    by_cases h128:s[i].toNat<128
    ·have HM:Hid (jg s[i].toNat=some (0,s[i].toNat)):=by show _=_;unfold jg;rw[if_neg hbad,if_pos h128]
     clear hbad
     have t0:decide (((s[i].toNat:Nat):Int)<32)=false:=by simp;omega
     have u0:decide (s[i].toNat<32)=false:=by simp;omega
     have t1:(((s[i].toNat:Nat):Int)==47)=false:=by rw[beq_eq_false_iff_ne];omega
     have t2:(((s[i].toNat:Nat):Int)==127)=false:=by rw[beq_eq_false_iff_ne];omega
     have t3:decide (((s[i].toNat:Nat):Int)<128)=true:=by simp;omega
     have u3:decide (s[i].toNat<128)=true:=by simp;omega
     have hc0:s[i].toNat<256:=by omega
     go_wp2_with fail
     clear t0 t1 t2 t3 u0 u3
     go_loopg [6,8] (0+1) (fun gm cc kk wq=>∃(k c':Nat),1≤k∧k≤0+1∧gm+k=0+2∧i+k≤s.size∧kk=.int .i64 k∧cc=.int .i64 c'∧c'<256*65 ^ (k-1)∧w=wq∧Hid (dS 0 (s.data.toList.drop (i+1)) (s[i].toNat)=dS (0+1-k) (s.data.toList.drop (i+k)) c'))
     case atStart=>exact⟨1,s[i].toNat,by omega,by omega,by omega,by omega,rfl,by first|rfl|(congr 1),by simpa using hc0,rfl,rfl⟩
     case round=>
      obtain⟨k,c',hk1,hk2,hg,hiz,rfl,rfl,hcb,rfl,hcc⟩:=hrel
      have hP:65 ^ (k-1)≤65 ^ 3:=Nat.pow_le_pow_right (by omega) (by omega)
      have hcs:c'<70304000:=Nat.lt_of_lt_of_le hcb (Nat.mul_le_mul_left 256 hP)
      have X0:=Lib.hid hcb
      clear hcb hP hx hc0
      obtain rfl:k=1:=by omega
      have hcc:Hid (dS 0 (s.data.toList.drop (i+1)) (s[i].toNat)=some c'):=hcc.out
      have HB:Hid (pF 0 c'=false):=rfl
      have HN:Hid (lettersOf s.data.toList 0=lettersOf (s.data.toList.drop (i+(1+0))) (n+1)):=by
       show _=_
       rw[HS.out,iq HM.out hcc.out,HB.out]
       show lettersOf ((s[i] :: s.data.toList.drop (i+1)).drop (1+0)) (n+1)=_
       rw[show 1+0=0+1 by omega,List.drop_succ_cons,List.drop_drop,show i+1+0=i+(0+1) by omega]
      clear hcc
      go_wp2_with fail
      go_roundg (s.size-(i+(1+0)))
      case measure=>omega
      case rel=>exact⟨i+(1+0),n+1,rfl,by omega,by omega,by go_num,by go_num,rfl,HN⟩
    ·by_cases h2:194≤s[i].toNat∧s[i].toNat<224
     ·have HM:Hid (jg s[i].toNat=some (1,s[i].toNat % 32)):=by show _=_;unfold jg;rw[if_neg hbad,if_neg h128,if_pos h2]
      clear hbad
      have t0:decide (((s[i].toNat:Nat):Int)<32)=false:=by simp;omega
      have u0:decide (s[i].toNat<32)=false:=by simp;omega
      have t1:(((s[i].toNat:Nat):Int)==47)=false:=by rw[beq_eq_false_iff_ne];omega
      have t2:(((s[i].toNat:Nat):Int)==127)=false:=by rw[beq_eq_false_iff_ne];omega
      have t3:decide (((s[i].toNat:Nat):Int)<128)=false:=by simp;omega
      have u3:decide (s[i].toNat<128)=false:=by simp;omega
      have t4:decide ((194:Int)≤((s[i].toNat:Nat):Int))=true:=by simp;omega
      have u4:decide (194≤s[i].toNat)=true:=by simp;omega
      have t5:decide (((s[i].toNat:Nat):Int)<224)=true:=by simp;omega
      have u5:decide (s[i].toNat<224)=true:=by simp;omega
      have hc0:s[i].toNat % 32<256:=by omega
      go_wp2_with fail
      clear t0 t1 t2 t3 t4 t5 u0 u3 u4 u5
      go_loopg [6,8] (1+1) (fun gm cc kk wq=>∃(k c':Nat),1≤k∧k≤1+1∧gm+k=1+2∧i+k≤s.size∧kk=.int .i64 k∧cc=.int .i64 c'∧c'<256*65 ^ (k-1)∧w=wq∧Hid (dS 1 (s.data.toList.drop (i+1)) (s[i].toNat % 32)=dS (1+1-k) (s.data.toList.drop (i+k)) c'))
      case atStart=>exact⟨1,s[i].toNat % 32,by omega,by omega,by omega,by omega,rfl,by first|rfl|(congr 1),by simpa using hc0,rfl,rfl⟩
      case round=>
       obtain⟨k,c',hk1,hk2,hg,hiz,rfl,rfl,hcb,rfl,hcc⟩:=hrel
       have hP:65 ^ (k-1)≤65 ^ 3:=Nat.pow_le_pow_right (by omega) (by omega)
       have hcs:c'<70304000:=Nat.lt_of_lt_of_le hcb (Nat.mul_le_mul_left 256 hP)
       have X0:=Lib.hid hcb
       clear hcb hP hx hc0
       by_cases hkm:k≤1
       ·by_cases hend:i+k<s.size
        ·have hend':i+k<s.data.toList.length:=by simpa using hend
         have hx2:s[i+k].toNat<256:=UInt8.toNat_lt _
         have Zw:Hid (dS (1+1-k) (s.data.toList.drop (i+k)) c'=if s[i+k].toNat<128∨191<s[i+k].toNat then none else dS (1+1-(k+1)) (s.data.toList.drop (i+(k+1))) (64*c'+s[i+k].toNat % 64)):=by
          show _=_
          rw[List.drop_eq_getElem_cons hend',show 1+1-k=(1+1-(k+1))+1 by omega]
          rfl
         by_cases hb:s[i+k].toNat<128∨191<s[i+k].toNat
         ·have HC:Hid (dS (1+1-k) (s.data.toList.drop (i+k)) c'=none):=by show _=_;rw[Zw.out,if_pos hb]
          have HF:Hid (lettersOf s.data.toList 0=none):=by
           show _=_
           rw[HS.out,jK HM.out (by rw[hcc.out];exact HC.out)]
          by_cases hl:s[i+k].toNat<128
          ·clear hb hcc
           have r0:decide (((s[i+k].toNat:Nat):Int)<128)=true:=by simp;omega
           have v0:decide (s[i+k].toNat<128)=true:=by simp;omega
           go_wp2_with fail
           go_ret2
           rw[HF.out]
           exact⟨rfl,Keeps.refl _ _⟩
          ·have hl2:191<s[i+k].toNat:=by omega
           clear hb hcc
           have r0:decide (((s[i+k].toNat:Nat):Int)<128)=false:=by simp;omega
           have v0:decide (s[i+k].toNat<128)=false:=by simp;omega
           have r1:decide ((191:Int)<((s[i+k].toNat:Nat):Int))=true:=by simp;omega
           have v1:decide (191<s[i+k].toNat)=true:=by simp;omega
           go_wp2_with fail
           go_ret2
           rw[HF.out]
           exact⟨rfl,Keeps.refl _ _⟩
         ·have HC:Hid (dS 1 (s.data.toList.drop (i+1)) (s[i].toNat % 32)=dS (1+1-(k+1)) (s.data.toList.drop (i+(k+1))) (64*c'+s[i+k].toNat % 64)):=by show _=_;rw[hcc.out,Zw.out,if_neg hb]
          have hl1:¬s[i+k].toNat<128:=by omega
          have hl2:¬191<s[i+k].toNat:=by omega
          have hnb:64*c'+s[i+k].toNat % 64<256*65 ^ (k+1-1):=by
           have h:=X0.out
           rw[show k+1-1=(k-1)+1 by omega,Nat.pow_succ]
           generalize 65 ^ (k-1)=P at h ⊢
           omega
          have JK:=Lib.hid hnb
          clear hb hcc hnb
          have r0:decide (((s[i+k].toNat:Nat):Int)<128)=false:=by simp;omega
          have v0:decide (s[i+k].toNat<128)=false:=by simp;omega
          have r1:decide ((191:Int)<((s[i+k].toNat:Nat):Int))=false:=by simp;omega
          have v1:decide (191<s[i+k].toNat)=false:=by simp;omega
          go_wp2_with fail
          go_roundg (1+1-k)
          case measure=>omega
          case rel=>exact⟨k+1,64*c'+s[i+k].toNat % 64,by omega,by omega,by omega,by omega,by go_num,by go_num,JK.out,rfl,HC⟩
        ·have HC:Hid (dS (1+1-k) (s.data.toList.drop (i+k)) c'=none):=by
          show _=_
          rw[List.drop_eq_nil_of_le (by simp;omega),show 1+1-k=(1-k)+1 by omega]
          rfl
         have HF:Hid (lettersOf s.data.toList 0=none):=by
          show _=_
          rw[HS.out,jK HM.out (by rw[hcc.out];exact HC.out)]
         clear hcc
         go_wp2_with fail
         go_ret2
         rw[HF.out]
         exact⟨rfl,Keeps.refl _ _⟩
       ·obtain rfl:k=1+1:=by omega
        have hcc:Hid (dS 1 (s.data.toList.drop (i+1)) (s[i].toNat % 32)=some c'):=hcc.out
        have HB:Hid (pF 1 c'=false):=rfl
        have HN:Hid (lettersOf s.data.toList 0=lettersOf (s.data.toList.drop (i+(1+1))) (n+1)):=by
         show _=_
         rw[HS.out,iq HM.out hcc.out,HB.out]
         show lettersOf ((s[i] :: s.data.toList.drop (i+1)).drop (1+1)) (n+1)=_
         rw[show 1+1=1+1 by omega,List.drop_succ_cons,List.drop_drop,show i+1+1=i+(1+1) by omega]
        clear hcc
        go_wp2_with fail
        go_roundg (s.size-(i+(1+1)))
        case measure=>omega
        case rel=>exact⟨i+(1+1),n+1,rfl,by omega,by omega,by go_num,by go_num,rfl,HN⟩
     ·by_cases h3:224≤s[i].toNat∧s[i].toNat<240
      ·have HM:Hid (jg s[i].toNat=some (2,s[i].toNat % 16)):=by show _=_;unfold jg;rw[if_neg hbad,if_neg h128,if_neg h2,if_pos h3]
       clear hbad h2
       have t0:decide (((s[i].toNat:Nat):Int)<32)=false:=by simp;omega
       have u0:decide (s[i].toNat<32)=false:=by simp;omega
       have t1:(((s[i].toNat:Nat):Int)==47)=false:=by rw[beq_eq_false_iff_ne];omega
       have t2:(((s[i].toNat:Nat):Int)==127)=false:=by rw[beq_eq_false_iff_ne];omega
       have t3:decide (((s[i].toNat:Nat):Int)<128)=false:=by simp;omega
       have u3:decide (s[i].toNat<128)=false:=by simp;omega
       have t4:decide ((194:Int)≤((s[i].toNat:Nat):Int))=true:=by simp;omega
       have u4:decide (194≤s[i].toNat)=true:=by simp;omega
       have t5:decide (((s[i].toNat:Nat):Int)<224)=false:=by simp;omega
       have u5:decide (s[i].toNat<224)=false:=by simp;omega
       have t6:decide ((224:Int)≤((s[i].toNat:Nat):Int))=true:=by simp;omega
       have u6:decide (224≤s[i].toNat)=true:=by simp;omega
       have t7:decide (((s[i].toNat:Nat):Int)<240)=true:=by simp;omega
       have u7:decide (s[i].toNat<240)=true:=by simp;omega
       have hc0:s[i].toNat % 16<256:=by omega
       go_wp2_with fail
       clear t0 t1 t2 t3 t4 t5 t6 t7 u0 u3 u4 u5 u6 u7
       go_loopg [6,8] (2+1) (fun gm cc kk wq=>∃(k c':Nat),1≤k∧k≤2+1∧gm+k=2+2∧i+k≤s.size∧kk=.int .i64 k∧cc=.int .i64 c'∧c'<256*65 ^ (k-1)∧w=wq∧Hid (dS 2 (s.data.toList.drop (i+1)) (s[i].toNat % 16)=dS (2+1-k) (s.data.toList.drop (i+k)) c'))
       case atStart=>exact⟨1,s[i].toNat % 16,by omega,by omega,by omega,by omega,rfl,by first|rfl|(congr 1),by simpa using hc0,rfl,rfl⟩
       case round=>
        obtain⟨k,c',hk1,hk2,hg,hiz,rfl,rfl,hcb,rfl,hcc⟩:=hrel
        have hP:65 ^ (k-1)≤65 ^ 3:=Nat.pow_le_pow_right (by omega) (by omega)
        have hcs:c'<70304000:=Nat.lt_of_lt_of_le hcb (Nat.mul_le_mul_left 256 hP)
        have X0:=Lib.hid hcb
        clear hcb hP hx hc0
        by_cases hkm:k≤2
        ·by_cases hend:i+k<s.size
         ·have hend':i+k<s.data.toList.length:=by simpa using hend
          have hx2:s[i+k].toNat<256:=UInt8.toNat_lt _
          have Zw:Hid (dS (2+1-k) (s.data.toList.drop (i+k)) c'=if s[i+k].toNat<128∨191<s[i+k].toNat then none else dS (2+1-(k+1)) (s.data.toList.drop (i+(k+1))) (64*c'+s[i+k].toNat % 64)):=by
           show _=_
           rw[List.drop_eq_getElem_cons hend',show 2+1-k=(2+1-(k+1))+1 by omega]
           rfl
          by_cases hb:s[i+k].toNat<128∨191<s[i+k].toNat
          ·have HC:Hid (dS (2+1-k) (s.data.toList.drop (i+k)) c'=none):=by show _=_;rw[Zw.out,if_pos hb]
           have HF:Hid (lettersOf s.data.toList 0=none):=by
            show _=_
            rw[HS.out,jK HM.out (by rw[hcc.out];exact HC.out)]
           by_cases hl:s[i+k].toNat<128
           ·clear hb hcc
            have r0:decide (((s[i+k].toNat:Nat):Int)<128)=true:=by simp;omega
            have v0:decide (s[i+k].toNat<128)=true:=by simp;omega
            go_wp2_with fail
            go_ret2
            rw[HF.out]
            exact⟨rfl,Keeps.refl _ _⟩
           ·have hl2:191<s[i+k].toNat:=by omega
            clear hb hcc
            have r0:decide (((s[i+k].toNat:Nat):Int)<128)=false:=by simp;omega
            have v0:decide (s[i+k].toNat<128)=false:=by simp;omega
            have r1:decide ((191:Int)<((s[i+k].toNat:Nat):Int))=true:=by simp;omega
            have v1:decide (191<s[i+k].toNat)=true:=by simp;omega
            go_wp2_with fail
            go_ret2
            rw[HF.out]
            exact⟨rfl,Keeps.refl _ _⟩
          ·have HC:Hid (dS 2 (s.data.toList.drop (i+1)) (s[i].toNat % 16)=dS (2+1-(k+1)) (s.data.toList.drop (i+(k+1))) (64*c'+s[i+k].toNat % 64)):=by show _=_;rw[hcc.out,Zw.out,if_neg hb]
           have hl1:¬s[i+k].toNat<128:=by omega
           have hl2:¬191<s[i+k].toNat:=by omega
           have hnb:64*c'+s[i+k].toNat % 64<256*65 ^ (k+1-1):=by
            have h:=X0.out
            rw[show k+1-1=(k-1)+1 by omega,Nat.pow_succ]
            generalize 65 ^ (k-1)=P at h ⊢
            omega
           have JK:=Lib.hid hnb
           clear hb hcc hnb
           have r0:decide (((s[i+k].toNat:Nat):Int)<128)=false:=by simp;omega
           have v0:decide (s[i+k].toNat<128)=false:=by simp;omega
           have r1:decide ((191:Int)<((s[i+k].toNat:Nat):Int))=false:=by simp;omega
           have v1:decide (191<s[i+k].toNat)=false:=by simp;omega
           go_wp2_with fail
           go_roundg (2+1-k)
           case measure=>omega
           case rel=>exact⟨k+1,64*c'+s[i+k].toNat % 64,by omega,by omega,by omega,by omega,by go_num,by go_num,JK.out,rfl,HC⟩
         ·have HC:Hid (dS (2+1-k) (s.data.toList.drop (i+k)) c'=none):=by
           show _=_
           rw[List.drop_eq_nil_of_le (by simp;omega),show 2+1-k=(2-k)+1 by omega]
           rfl
          have HF:Hid (lettersOf s.data.toList 0=none):=by
           show _=_
           rw[HS.out,jK HM.out (by rw[hcc.out];exact HC.out)]
          clear hcc
          go_wp2_with fail
          go_ret2
          rw[HF.out]
          exact⟨rfl,Keeps.refl _ _⟩
        ·obtain rfl:k=2+1:=by omega
         have hcc:Hid (dS 2 (s.data.toList.drop (i+1)) (s[i].toNat % 16)=some c'):=hcc.out
         by_cases h1:c'<2048
         ·have HB:Hid (pF 2 c'=true):=by show _=_;unfold pF;simp;omega
          have HF:Hid (lettersOf s.data.toList 0=none):=by
           show _=_
           rw[HS.out,iq HM.out hcc.out,HB.out]
           rfl
          have r0:decide (((c':Nat):Int)<2048)=true:=by simp;omega
          have v0:decide (c'<2048)=true:=by simp;omega
          clear hcc
          go_wp2_with fail
          go_ret2
          rw[HF.out]
          exact⟨rfl,Keeps.refl _ _⟩
         ·by_cases h2:c'<55296
          ·have HB:Hid (pF 2 c'=false):=by show _=_;unfold pF;simp;omega
           have HN:Hid (lettersOf s.data.toList 0=lettersOf (s.data.toList.drop (i+(1+2))) (n+1)):=by
            show _=_
            rw[HS.out,iq HM.out hcc.out,HB.out]
            show lettersOf ((s[i] :: s.data.toList.drop (i+1)).drop (1+2)) (n+1)=_
            rw[show 1+2=2+1 by omega,List.drop_succ_cons,List.drop_drop,show i+1+2=i+(2+1) by omega]
           have r0:decide (((c':Nat):Int)<2048)=false:=by simp;omega
           have v0:decide (c'<2048)=false:=by simp;omega
           have r1:decide ((55296:Int)≤((c':Nat):Int))=false:=by simp;omega
           have v1:decide (55296≤c')=false:=by simp;omega
           clear hcc
           go_wp2_with fail
           go_roundg (s.size-(i+(1+2)))
           case measure=>omega
           case rel=>exact⟨i+(1+2),n+1,rfl,by omega,by omega,by go_num,by go_num,rfl,HN⟩
          ·by_cases h3:c'<57344
           ·have HB:Hid (pF 2 c'=true):=by show _=_;unfold pF;simp;omega
            have HF:Hid (lettersOf s.data.toList 0=none):=by
             show _=_
             rw[HS.out,iq HM.out hcc.out,HB.out]
             rfl
            have r0:decide (((c':Nat):Int)<2048)=false:=by simp;omega
            have v0:decide (c'<2048)=false:=by simp;omega
            have r1:decide ((55296:Int)≤((c':Nat):Int))=true:=by simp;omega
            have v1:decide (55296≤c')=true:=by simp;omega
            have r2:decide (((c':Nat):Int)<57344)=true:=by simp;omega
            have v2:decide (c'<57344)=true:=by simp;omega
            clear hcc
            go_wp2_with fail
            go_ret2
            rw[HF.out]
            exact⟨rfl,Keeps.refl _ _⟩
           ·have HB:Hid (pF 2 c'=false):=by show _=_;unfold pF;simp;omega
            have HN:Hid (lettersOf s.data.toList 0=lettersOf (s.data.toList.drop (i+(1+2))) (n+1)):=by
             show _=_
             rw[HS.out,iq HM.out hcc.out,HB.out]
             show lettersOf ((s[i] :: s.data.toList.drop (i+1)).drop (1+2)) (n+1)=_
             rw[show 1+2=2+1 by omega,List.drop_succ_cons,List.drop_drop,show i+1+2=i+(2+1) by omega]
            have r0:decide (((c':Nat):Int)<2048)=false:=by simp;omega
            have v0:decide (c'<2048)=false:=by simp;omega
            have r1:decide ((55296:Int)≤((c':Nat):Int))=true:=by simp;omega
            have v1:decide (55296≤c')=true:=by simp;omega
            have r2:decide (((c':Nat):Int)<57344)=false:=by simp;omega
            have v2:decide (c'<57344)=false:=by simp;omega
            clear hcc
            go_wp2_with fail
            go_roundg (s.size-(i+(1+2)))
            case measure=>omega
            case rel=>exact⟨i+(1+2),n+1,rfl,by omega,by omega,by go_num,by go_num,rfl,HN⟩
      ·by_cases h4:240≤s[i].toNat∧s[i].toNat<245
       ·have HM:Hid (jg s[i].toNat=some (3,s[i].toNat % 8)):=by show _=_;unfold jg;rw[if_neg hbad,if_neg h128,if_neg h2,if_neg h3,if_pos h4]
        clear hbad h2 h3
        have t0:decide (((s[i].toNat:Nat):Int)<32)=false:=by simp;omega
        have u0:decide (s[i].toNat<32)=false:=by simp;omega
        have t1:(((s[i].toNat:Nat):Int)==47)=false:=by rw[beq_eq_false_iff_ne];omega
        have t2:(((s[i].toNat:Nat):Int)==127)=false:=by rw[beq_eq_false_iff_ne];omega
        have t3:decide (((s[i].toNat:Nat):Int)<128)=false:=by simp;omega
        have u3:decide (s[i].toNat<128)=false:=by simp;omega
        have t4:decide ((194:Int)≤((s[i].toNat:Nat):Int))=true:=by simp;omega
        have u4:decide (194≤s[i].toNat)=true:=by simp;omega
        have t5:decide (((s[i].toNat:Nat):Int)<224)=false:=by simp;omega
        have u5:decide (s[i].toNat<224)=false:=by simp;omega
        have t6:decide ((224:Int)≤((s[i].toNat:Nat):Int))=true:=by simp;omega
        have u6:decide (224≤s[i].toNat)=true:=by simp;omega
        have t7:decide (((s[i].toNat:Nat):Int)<240)=false:=by simp;omega
        have u7:decide (s[i].toNat<240)=false:=by simp;omega
        have t8:decide ((240:Int)≤((s[i].toNat:Nat):Int))=true:=by simp;omega
        have u8:decide (240≤s[i].toNat)=true:=by simp;omega
        have t9:decide (((s[i].toNat:Nat):Int)<245)=true:=by simp;omega
        have u9:decide (s[i].toNat<245)=true:=by simp;omega
        have hc0:s[i].toNat % 8<256:=by omega
        go_wp2_with fail
        clear t0 t1 t2 t3 t4 t5 t6 t7 t8 t9 u0 u3 u4 u5 u6 u7 u8 u9
        go_loopg [6,8] (3+1) (fun gm cc kk wq=>∃(k c':Nat),1≤k∧k≤3+1∧gm+k=3+2∧i+k≤s.size∧kk=.int .i64 k∧cc=.int .i64 c'∧c'<256*65 ^ (k-1)∧w=wq∧Hid (dS 3 (s.data.toList.drop (i+1)) (s[i].toNat % 8)=dS (3+1-k) (s.data.toList.drop (i+k)) c'))
        case atStart=>exact⟨1,s[i].toNat % 8,by omega,by omega,by omega,by omega,rfl,by first|rfl|(congr 1),by simpa using hc0,rfl,rfl⟩
        case round=>
         obtain⟨k,c',hk1,hk2,hg,hiz,rfl,rfl,hcb,rfl,hcc⟩:=hrel
         have hP:65 ^ (k-1)≤65 ^ 3:=Nat.pow_le_pow_right (by omega) (by omega)
         have hcs:c'<70304000:=Nat.lt_of_lt_of_le hcb (Nat.mul_le_mul_left 256 hP)
         have X0:=Lib.hid hcb
         clear hcb hP hx hc0
         by_cases hkm:k≤3
         ·by_cases hend:i+k<s.size
          ·have hend':i+k<s.data.toList.length:=by simpa using hend
           have hx2:s[i+k].toNat<256:=UInt8.toNat_lt _
           have Zw:Hid (dS (3+1-k) (s.data.toList.drop (i+k)) c'=if s[i+k].toNat<128∨191<s[i+k].toNat then none else dS (3+1-(k+1)) (s.data.toList.drop (i+(k+1))) (64*c'+s[i+k].toNat % 64)):=by
            show _=_
            rw[List.drop_eq_getElem_cons hend',show 3+1-k=(3+1-(k+1))+1 by omega]
            rfl
           by_cases hb:s[i+k].toNat<128∨191<s[i+k].toNat
           ·have HC:Hid (dS (3+1-k) (s.data.toList.drop (i+k)) c'=none):=by show _=_;rw[Zw.out,if_pos hb]
            have HF:Hid (lettersOf s.data.toList 0=none):=by
             show _=_
             rw[HS.out,jK HM.out (by rw[hcc.out];exact HC.out)]
            by_cases hl:s[i+k].toNat<128
            ·clear hb hcc
             have r0:decide (((s[i+k].toNat:Nat):Int)<128)=true:=by simp;omega
             have v0:decide (s[i+k].toNat<128)=true:=by simp;omega
             go_wp2_with fail
             go_ret2
             rw[HF.out]
             exact⟨rfl,Keeps.refl _ _⟩
            ·have hl2:191<s[i+k].toNat:=by omega
             clear hb hcc
             have r0:decide (((s[i+k].toNat:Nat):Int)<128)=false:=by simp;omega
             have v0:decide (s[i+k].toNat<128)=false:=by simp;omega
             have r1:decide ((191:Int)<((s[i+k].toNat:Nat):Int))=true:=by simp;omega
             have v1:decide (191<s[i+k].toNat)=true:=by simp;omega
             go_wp2_with fail
             go_ret2
             rw[HF.out]
             exact⟨rfl,Keeps.refl _ _⟩
           ·have HC:Hid (dS 3 (s.data.toList.drop (i+1)) (s[i].toNat % 8)=dS (3+1-(k+1)) (s.data.toList.drop (i+(k+1))) (64*c'+s[i+k].toNat % 64)):=by show _=_;rw[hcc.out,Zw.out,if_neg hb]
            have hl1:¬s[i+k].toNat<128:=by omega
            have hl2:¬191<s[i+k].toNat:=by omega
            have hnb:64*c'+s[i+k].toNat % 64<256*65 ^ (k+1-1):=by
             have h:=X0.out
             rw[show k+1-1=(k-1)+1 by omega,Nat.pow_succ]
             generalize 65 ^ (k-1)=P at h ⊢
             omega
            have JK:=Lib.hid hnb
            clear hb hcc hnb
            have r0:decide (((s[i+k].toNat:Nat):Int)<128)=false:=by simp;omega
            have v0:decide (s[i+k].toNat<128)=false:=by simp;omega
            have r1:decide ((191:Int)<((s[i+k].toNat:Nat):Int))=false:=by simp;omega
            have v1:decide (191<s[i+k].toNat)=false:=by simp;omega
            go_wp2_with fail
            go_roundg (3+1-k)
            case measure=>omega
            case rel=>exact⟨k+1,64*c'+s[i+k].toNat % 64,by omega,by omega,by omega,by omega,by go_num,by go_num,JK.out,rfl,HC⟩
          ·have HC:Hid (dS (3+1-k) (s.data.toList.drop (i+k)) c'=none):=by
            show _=_
            rw[List.drop_eq_nil_of_le (by simp;omega),show 3+1-k=(3-k)+1 by omega]
            rfl
           have HF:Hid (lettersOf s.data.toList 0=none):=by
            show _=_
            rw[HS.out,jK HM.out (by rw[hcc.out];exact HC.out)]
           clear hcc
           go_wp2_with fail
           go_ret2
           rw[HF.out]
           exact⟨rfl,Keeps.refl _ _⟩
         ·obtain rfl:k=3+1:=by omega
          have hcc:Hid (dS 3 (s.data.toList.drop (i+1)) (s[i].toNat % 8)=some c'):=hcc.out
          by_cases h1:c'<65536
          ·have HB:Hid (pF 3 c'=true):=by show _=_;unfold pF;simp;omega
           have HF:Hid (lettersOf s.data.toList 0=none):=by
            show _=_
            rw[HS.out,iq HM.out hcc.out,HB.out]
            rfl
           have r0:decide (((c':Nat):Int)<65536)=true:=by simp;omega
           have v0:decide (c'<65536)=true:=by simp;omega
           clear hcc
           go_wp2_with fail
           go_ret2
           rw[HF.out]
           exact⟨rfl,Keeps.refl _ _⟩
          ·by_cases h2:1114111<c'
           ·have HB:Hid (pF 3 c'=true):=by show _=_;unfold pF;simp;omega
            have HF:Hid (lettersOf s.data.toList 0=none):=by
             show _=_
             rw[HS.out,iq HM.out hcc.out,HB.out]
             rfl
            have r0:decide (((c':Nat):Int)<65536)=false:=by simp;omega
            have v0:decide (c'<65536)=false:=by simp;omega
            have r1:decide ((1114111:Int)<((c':Nat):Int))=true:=by simp;omega
            have v1:decide (1114111<c')=true:=by simp;omega
            clear hcc
            go_wp2_with fail
            go_ret2
            rw[HF.out]
            exact⟨rfl,Keeps.refl _ _⟩
           ·have HB:Hid (pF 3 c'=false):=by show _=_;unfold pF;simp;omega
            have HN:Hid (lettersOf s.data.toList 0=lettersOf (s.data.toList.drop (i+(1+3))) (n+1)):=by
             show _=_
             rw[HS.out,iq HM.out hcc.out,HB.out]
             show lettersOf ((s[i] :: s.data.toList.drop (i+1)).drop (1+3)) (n+1)=_
             rw[show 1+3=3+1 by omega,List.drop_succ_cons,List.drop_drop,show i+1+3=i+(3+1) by omega]
            have r0:decide (((c':Nat):Int)<65536)=false:=by simp;omega
            have v0:decide (c'<65536)=false:=by simp;omega
            have r1:decide ((1114111:Int)<((c':Nat):Int))=false:=by simp;omega
            have v1:decide (1114111<c')=false:=by simp;omega
            clear hcc
            go_wp2_with fail
            go_roundg (s.size-(i+(1+3)))
            case measure=>omega
            case rel=>exact⟨i+(1+3),n+1,rfl,by omega,by omega,by go_num,by go_num,rfl,HN⟩
       ·have HM:Hid (jg s[i].toNat=none):=by show _=_;unfold jg;rw[if_neg hbad,if_neg h128,if_neg h2,if_neg h3,if_neg h4]
        have HF:Hid (lettersOf s.data.toList 0=none):=by
         show _=_
         rw[HS.out,qJ HM.out]
        by_cases h5:s[i].toNat<194
        ·clear hbad h2 h3 h4
         have t0:decide (((s[i].toNat:Nat):Int)<32)=false:=by simp;omega
         have u0:decide (s[i].toNat<32)=false:=by simp;omega
         have t1:(((s[i].toNat:Nat):Int)==47)=false:=by rw[beq_eq_false_iff_ne];omega
         have t2:(((s[i].toNat:Nat):Int)==127)=false:=by rw[beq_eq_false_iff_ne];omega
         have t3:decide (((s[i].toNat:Nat):Int)<128)=false:=by simp;omega
         have u3:decide (s[i].toNat<128)=false:=by simp;omega
         have t4:decide ((194:Int)≤((s[i].toNat:Nat):Int))=false:=by simp;omega
         have u4:decide (194≤s[i].toNat)=false:=by simp;omega
         have t5:decide ((224:Int)≤((s[i].toNat:Nat):Int))=false:=by simp;omega
         have u5:decide (224≤s[i].toNat)=false:=by simp;omega
         have t6:decide ((240:Int)≤((s[i].toNat:Nat):Int))=false:=by simp;omega
         have u6:decide (240≤s[i].toNat)=false:=by simp;omega
         go_wp2_with fail
         go_ret2
         rw[HF.out]
         exact⟨rfl,Keeps.refl _ _⟩
        ·have h6:245≤s[i].toNat:=by omega
         clear hbad h2 h3 h4
         have t0:decide (((s[i].toNat:Nat):Int)<32)=false:=by simp;omega
         have u0:decide (s[i].toNat<32)=false:=by simp;omega
         have t1:(((s[i].toNat:Nat):Int)==47)=false:=by rw[beq_eq_false_iff_ne];omega
         have t2:(((s[i].toNat:Nat):Int)==127)=false:=by rw[beq_eq_false_iff_ne];omega
         have t3:decide (((s[i].toNat:Nat):Int)<128)=false:=by simp;omega
         have u3:decide (s[i].toNat<128)=false:=by simp;omega
         have t4:decide ((194:Int)≤((s[i].toNat:Nat):Int))=true:=by simp;omega
         have u4:decide (194≤s[i].toNat)=true:=by simp;omega
         have t5:decide (((s[i].toNat:Nat):Int)<224)=false:=by simp;omega
         have u5:decide (s[i].toNat<224)=false:=by simp;omega
         have t6:decide ((224:Int)≤((s[i].toNat:Nat):Int))=true:=by simp;omega
         have u6:decide (224≤s[i].toNat)=true:=by simp;omega
         have t7:decide (((s[i].toNat:Nat):Int)<240)=false:=by simp;omega
         have u7:decide (s[i].toNat<240)=false:=by simp;omega
         have t8:decide ((240:Int)≤((s[i].toNat:Nat):Int))=true:=by simp;omega
         have u8:decide (240≤s[i].toNat)=true:=by simp;omega
         have t9:decide (((s[i].toNat:Nat):Int)<245)=false:=by simp;omega
         have u9:decide (s[i].toNat<245)=false:=by simp;omega
         go_wp2_with fail
         go_ret2
         rw[HF.out]
         exact⟨rfl,Keeps.refl _ _⟩
  ·have HF:Hid (lettersOf s.data.toList 0=some n):=by
    show _=_
    rw[hl.out,List.drop_eq_nil_of_le (by simp;omega)]
    rfl
   clear hl
   go_wp2_with fail
   go_ret2
   rw[HF.out]
   exact⟨rfl,Keeps.refl _ _⟩
end Go.Proofs.YtdkogijdfgfpeaaGreatDoor

/- (*tree.stack).come: a node of a path comes: does it stand where it may? -/
import Derived.Test.YtdkogijdfgfpeaaGreatDoorZLib
import Derived.Deep.LoopGhost
import Derived.Deep.RegionHeld3
import Derived.StillTailTactics
import Derived.Deep.DeepCutAuto
set_option linter.unusedVariables false
namespace Go.Proofs.YtdkogijdfgfpeaaGreatDoor
open Go Go.RowKit
set_option maxHeartbeats 1600000
set_option maxRecDepth 100000
abbrev Opens:=List (List UInt8×List UInt8)
def dh(st:Opens):List Value:=st.flatMap fun o=>[sv o.1,sv o.2]
theorem bD(st:Opens):(dh st).length=st.length*2:=by
 induction st with
 |nil=>rfl
 |cons o st ih=>simp only[dh,List.flatMap_cons,List.length_append,List.length_cons,List.length_nil] at *;omega
theorem bW(a b:Opens):dh (a++b)=dh a++dh b:=by simp[dh]
def o8(w:World)(B t:Nat)(st:Opens):Prop:=∃v,aS w t #[v] 105∧B≤t∧Sl w B 160 2 v st.length (dh st)
def aK(p:List UInt8):List UInt8×List UInt8:=if 0≤lastIdx p 47 then (p.take (lastIdx p 47).toNat,p.drop ((lastIdx p 47).toNat+1)) else ([],p)
def mX(dir:List UInt8)(st:Opens):Opens:=(st.reverse.dropWhile fun o=>o.1 !=dir).reverse
theorem Dn(dir:List UInt8)(st:Opens)(o:List UInt8×List UInt8):mX dir (st++[o])=if o.1=dir then st++[o] else mX dir st:=by
 unfold mX
 rw[List.reverse_append]
 show(List.dropWhile _ (o :: st.reverse)).reverse=_
 rw[List.dropWhile_cons]
 by_cases h:o.1=dir
 ·simp[h]
 ·simp[h]
def pY(a b:List UInt8):Bool:=Op.bytesLess a b||a==b
def bV(path:List UInt8)(st:Opens):Bool×Opens:=
 let st':=mX (aK path).1 st
 match st'.getLast? with
 |none=>(false,st')
 |some o=>
  if !nameB (aK path).2||path.head? == some 47||pY (aK path).2 o.2 then (false,st')
  else (true,st'.dropLast++[(o.1,(aK path).2)])
theorem P8{p:ByteArray}(h:0<p.size)(e:p[0]=47):(p.data.toList.head? == some 47)=true:=by
 have:p.data.toList.head? =some p[0]:=by
  rw[List.head?_eq_getElem?];exact List.getElem?_eq_getElem (by simpa using h)
 rw[this,e];rfl
theorem Dp{p:ByteArray}(h:0<p.size)(e:¬p[0]=47):(p.data.toList.head? == some 47)=false:=by
 have:p.data.toList.head? =some p[0]:=by
  rw[List.head?_eq_getElem?];exact List.getElem?_eq_getElem (by simpa using h)
 rw[this];simpa using e
theorem wP{path:List UInt8}{st:Opens}(h:mX (aK path).1 st=[]):bV path st=(false,[]):=by
 unfold bV;rw[h];rfl
theorem Gw(l:List UInt8)(c:UInt8):∀k,iT l c k<(k:Int)
 |0=>by simp[iT]
 |k+1=>by
  unfold iT
  split
  ·omega
  ·have:=Gw l c k;omega
theorem lastIdx_lt(l:List UInt8)(c:UInt8):lastIdx l c<(l.length:Int):=Gw l c _
theorem QS(path:ByteArray)(h:¬0≤lastIdx path.data.toList 47):aK path.data.toList=((⟨#[]⟩:ByteArray).data.toList,path.data.toList):=by
 unfold aK;rw[if_neg h]
theorem QT(path:ByteArray)(h:0≤lastIdx path.data.toList 47):aK path.data.toList=
 ((path.extract 0 (lastIdx path.data.toList 47).toNat).data.toList,(path.extract ((lastIdx path.data.toList 47).toNat+1) path.size).data.toList):=by
 unfold aK
 rw[if_pos h,ext_list,ext_list]
 congr 1
 rw[List.take_of_length_le]
 rw[List.length_drop,dlen]
 exact Nat.le_refl _
theorem Ut(B t:Nat)(st:Opens)(path:ByteArray)(w:World)(hp:path.size≤maxLen)(hT:Tabs w)(hB:kV≤B)(h:o8 w B t st):
 Calls Tryz.prog 91 #[.pointer (some ⟨t,0,none⟩),.string path] w fun e w'=>
  e=.returned (.bool (bV path.data.toList st).1)∧o8 w' B t (bV path.data.toList st).2∧Kp B [105,160] w w':=by
 have hp':=hp
 unfold maxLen at hp'
 have hlast:=lastIdx_lt path.data.toList 47
 rw[dlen] at hlast
 go_enter Tryz.func91,Tryz.ntmps91
 go_wp2_with fail
 refine(xU path 47 _ hp).mono ?_
 rintro e w' ⟨rfl,rfl⟩
 have hd1:=QT path
 have hd2:=QS path
 have HD1:=Lib.hid hd1
 have HD2:=Lib.hid hd2
 clear hd1 hd2
 generalize lastIdx path.data.toList 47=L at *
 go_upto_if 13 with(fail)
 go_cut [5,6] (fun d n wx=>∃dir name:ByteArray,d=.string dir∧n=.string name∧Hid (aK path.data.toList=(dir.data.toList,name.data.toList))∧name.size≤path.size∧∃q,wx=w.drewN q)
 case first=>
  by_cases hk:0≤L
  ·have HD':=Lib.hid (HD1.out (by omega))
   clear HD1 HD2
   go_wp2_with fail
   go_quiet (fail)
   go_wp2_with fail
   go_meet
   exact⟨_,_,rfl,rfl,(by rw[show(L+1).toNat=L.toNat+1 by omega];exact HD'.out),by rw[ByteArray.size_extract];omega,_,rfl⟩
  ·have HD:=Lib.hid (HD2.out (by omega))
   clear HD1 HD2
   go_wp2_with fail
   go_meet
   exact⟨⟨#[]⟩,path,rfl,rfl,HD.out,Nat.le_refl _,0,rfl⟩
 case rest=>
  obtain⟨dir,name,rfl,rfl,hdn,hns,q,rfl⟩:=hcut
  have hT':Tabs (w.drewN q):=hT
  have h':o8 (w.drewN q) B t st:=h
  generalize hW:w.drewN q=W at *
  have hkw:Kp B [105,160] w W:=by rw[←hW];exact(Kp.refl _ _ _).drewN q
  have pO:=Lib.hid hkw
  have HT:=Lib.hid hT'
  clear hW hkw hT' hT h hlast
  clear HD1 HD2
  go_wp2_with fail
  go_loopg [] (st.length+1) (fun gk wr=>∃st':Opens,o8 wr B t st'∧st'.length<gk∧Hid (mX dir.data.toList st=mX dir.data.toList st')∧Kp B [105] W wr)
  case atStart=>exact⟨st,h',by omega,rfl,Kp.refl _ _ _⟩
  case round=>
   obtain⟨st',hst,hg,hpop,hkp⟩:=hrel
   obtain⟨v,hv,hBt,hs⟩:=hst
   have c0:wr.cell? ⟨t,0,none⟩=some v:=hv.cell 0
   have f0:=hv.free 0
   rcases List.eq_nil_or_concat st' with rfl|⟨st2,o,rfl⟩
   ·-- nothing is left
    obtain⟨-,⟨rfl,-⟩|⟨b,off,cap,c,rfl,hBb,hb,h3,h4,h5,h6⟩⟩:=hs
    ·have HF:Hid (bV path.data.toList st=(false,[])):=wP (by rw[hdn.out];exact hpop.out)
     have HS:Hid (o8 (wr.drewN 1) B t []):=⟨_,hv,hBt,Sl.nil _ _ _ _⟩
     have HK:=Lib.hid (pO.out.trans (hkp.mono (.inr ⟨Nat.le_refl _,by simp⟩)))
     clear hkp hv pO
     go_wp2_with fail
     go_quiet (fail)
     go_wp2_with fail
     go_ret
     rw[HF.out]
     exact⟨rfl,HS.out,HK.out.drewN _⟩
    ·have c0':wr.cell? ⟨t,0,none⟩=some (.slice (some ⟨b,off,none⟩) 0 cap):=c0
     have HF:Hid (bV path.data.toList st=(false,[])):=wP (by rw[hdn.out];exact hpop.out)
     have HS:Hid (o8 (wr.drewN 1) B t []):=⟨_,hv,hBt,⟨rfl,.inr ⟨b,off,cap,c,rfl,hBb,hb,h3,h4,h5,h6⟩⟩⟩
     have HK:=Lib.hid (pO.out.trans (hkp.mono (.inr ⟨Nat.le_refl _,by simp⟩)))
     clear hkp hv pO c0 hb h6
     go_wp2_with fail
     go_quiet (fail)
     go_wp2_with fail
     go_ret
     rw[HF.out]
     exact⟨rfl,HS.out,HK.out.drewN _⟩
   ·rw[List.concat_eq_append] at hs hg hpop
    obtain⟨b,off,cap,rfl,hBb,hnc,hcm,hlt,hcell,hfree⟩:=hs.pos (by simp)
    unfold maxLen at hcm
    obtain⟨op,ol⟩:=o
    have e1:(st2++[(op,ol)]).length=st2.length+1:=by simp
    rw[e1] at c0 hnc hcell hg
    clear e1
    have c1:wr.cell? ⟨b,off+st2.length*2,none⟩=some (sv op):=by
     rw[hcell _ (by omega),bW,List.getElem?_append_right (by rw[bD];exact Nat.le_refl _),bD]
     simp[dh]
    unfold sv at c1
    have acy:=Lib.hid hcell
    clear hcell
    have q1:IntKind.i64.wrap (st2.length:Int)=(st2.length:Int):=IntWalk.i64_in _ (by omega)
    have q2:(0:Int)≤(st2.length:Int):=by omega
    have q3:(st2.length:Int)<(st2.length:Int)+1:=by omega
    have q4:st2.length<st2.length+1:=by omega
    have q5:(0:Int)<(st2.length:Int)+1:=by omega
    have q7:(st2.length:Int)≤(cap:Int):=by omega
    have q8:st2.length≤cap:=by omega
    have q6:IntKind.i64.wrap ((st2.length:Int)+1-1)=(st2.length:Int):=by rw[IntWalk.i64_in _ (by omega)];omega
    by_cases he:op=dir.data.toList
    ·have hb:(!op==dir.toList)=false:=by rw[ByteArray.toList_eq,he];simp
     have hT2:Tabs wr:=HT.out.kp hkp hB
     have Uu:Hid (mX (aK path.data.toList).1 st=st2++[(op,ol)]):=by
      show _=_
      rw[hdn.out,hpop.out,Dn,if_pos he]
     clear hpop
     clear he
     go_wp2_with fail
     go_quiet (fail)
     go_wp2_with fail
     refine(name_any name _ (by unfold maxLen;omega) (show Tabs (wr.drewN nq) from hT2)).mono ?_
     rintro e w2 ⟨rfl,hk2⟩
     have hv2:aS w2 t #[.slice (some ⟨b,off,none⟩) (st2++[(op,ol)]).length cap] 105:=aS.keeps (w:=wr.drewN nq) hv hk2 (fun h=>h)
     have hs2:Sl w2 B 160 2 (.slice (some ⟨b,off,none⟩) (st2++[(op,ol)]).length cap) (st2++[(op,ol)]).length (dh (st2++[(op,ol)])):=
      hs.keep fun b' c _ _ hb=>aS.keeps (w:=wr.drewN nq) hb hk2 (fun h=>h)
     have hst2:o8 w2 B t (st2++[(op,ol)]):=⟨_,hv2,hBt,hs2⟩
     have Ae:Kp B [105,160] w w2:=((pO.out.trans (hkp.mono (.inr ⟨Nat.le_refl _,by simp⟩))).drewN nq).trans (Kp.aI hk2)
     have HS2:=Lib.hid hst2
     have iP:=Lib.hid Ae
     have HSL:=Lib.hid hs2
     have QU:=Lib.hid hv2
     have d0:w2.cell? ⟨t,0,none⟩=some (.slice (some ⟨b,off,none⟩) (st2.length+1) cap):=by
      have:=hv2.cell 0
      simpa using this
     have d1:w2.cell? ⟨b,off+st2.length*2+1,none⟩=some (sv ol):=by
      have:=(hs2.at (st2.length*2+1) (by simp;omega)).1
      rw[←Nat.add_assoc] at this
      rw[this,bW,List.getElem?_append_right (by rw[bD];omega),bD]
      simp[dh]
     have g1:w2.frozen? ⟨b,off+st2.length*2+1,none⟩=false:=by
      have:=(hs2.at (st2.length*2+1) (by simp;omega)).2
      rwa [←Nat.add_assoc] at this
     unfold sv at d1
     clear hs hv hkp pO HT hT2 hst2 Ae hk2 hv2 c0 c1 f0 hfree acy hs2
     cases hn:nameB name.data.toList with
     |false=>
      have HF:Hid (bV path.data.toList st=(false,st2++[(op,ol)])):=by
       show _=_
       unfold bV
       rw[Uu.out,hdn.out]
       simp[hn]
      clear hn
      go_wp2_with fail
      go_ret
      rw[HF.out]
      exact⟨rfl,HS2.out,iP.out⟩
     |true=>
      have hpos:0<path.size:=by
       rcases Nat.eq_zero_or_pos path.size with h0|h0
       ·have:name.data.toList=[]:=List.eq_nil_of_length_eq_zero (by rw[dlen];omega)
        rw[this] at hn
        cases hn
       ·exact h0
      by_cases h47:path[0]=47
      ·have HF:Hid (bV path.data.toList st=(false,st2++[(op,ol)])):=by
        show _=_
        unfold bV
        rw[Uu.out,hdn.out]
        simp[P8 hpos h47]
       have hb7:((path[0].toNat:Int)==47)=true:=by rw[h47];rfl
       clear hn h47
       go_wp2_with fail
       go_ret
       rw[HF.out]
       exact⟨rfl,HS2.out,iP.out⟩
      ·have hb7:((path[0].toNat:Int)==47)=false:=by
        rw[beq_eq_false_iff_ne];intro e;exact h47 (UInt8.toNat_inj.1 (show path[0].toNat=47 by omega))
       have HC:Hid (bV path.data.toList st=if pY name.data.toList ol then (false,st2++[(op,ol)]) else (true,st2++[(op,name.data.toList)])):=by
        show _=_
        unfold bV
        rw[Uu.out,hdn.out]
        simp[hn,Dp hpos h47]
       clear hn h47
       go_wp2_with fail
       obtain⟨w3,hw3⟩:∃w3,w2=w3:=⟨_,rfl⟩
       rw[hw3] at d0 d1 g1 HS2 iP HSL QU ⊢
       clear hw3
       go_quiet (fail)
       by_cases hle:pY name.data.toList ol=true
       ·have hb8:(Op.bytesLess name.toList ol||name.toList==ol)=true:=by rw[ByteArray.toList_eq];exact hle
        rw[if_pos hle] at HC
        clear hle
        go_wp2_with fail
        go_ret
        rw[HC.out]
        exact⟨rfl,HS2.out,iP.out.drewN _⟩
       ·have hb8:(Op.bytesLess name.toList ol||name.toList==ol)=false:=by rw[ByteArray.toList_eq];exact Bool.eq_false_iff.2 hle
        rw[if_neg hle] at HC
        clear hle
        go_wp2_with fail
        go_ret
        rw[HC.out]
        have hsl:=HSL.out.set (st2.length*2+1) (by simp;omega) (.string name)
        obtain⟨c3,hc3,afY⟩:=HSL.out.blk
        rw[←Nat.add_assoc] at hsl
        have hkp3:Kp B [105,160] w (w3.setCell ⟨b,off+st2.length*2+1,none⟩ (.string name)):=iP.out.set hc3 (.inr ⟨afY,by simp⟩) _ _
        refine⟨rfl,?_,hkp3.drewN _⟩
        have hvb:=QU.out.jT ⟨b,off+st2.length*2+1,none⟩ (.string name) (fun e=>by
         cases e;exact absurd (QU.out.inj hc3).2 (by decide))
        have e9:(dh (st2++[(op,ol)])).set (st2.length*2+1) (.string name)=dh (st2++[(op,name.data.toList)]):=by
         rw[bW,bW,List.set_append_right _ _ (by rw[bD];omega),bD]
         simp[dh,sv]
        rw[e9] at hsl
        have e8:(st2++[(op,name.data.toList)]).length=(st2++[(op,ol)]).length:=by simp
        refine⟨_,hvb,hBt,?_⟩
        rw[e8]
        exact hsl
    ·have hb:(!op==dir.toList)=true:=by rw[ByteArray.toList_eq];simpa using he
     have Uu:Hid (mX dir.data.toList st=mX dir.data.toList st2):=by
      show _=_
      rw[hpop.out,Dn,if_neg he]
     clear hpop he
     go_wp2_with fail
     go_quiet (fail)
     go_wp2_with fail
     obtain⟨w1,hw1⟩:∃w1,wr.drewN nq=w1:=⟨_,rfl⟩
     have d0:w1.cell? ⟨t,0,none⟩=some (.slice (some ⟨b,off,none⟩) (st2.length+1) cap):=by rw[←hw1];exact c0
     have g0:w1.frozen? ⟨t,0,none⟩=false:=by rw[←hw1];exact f0
     rw[hw1]
     have HW1:=Lib.hid hw1
     clear hw1 c0 f0 hfree c1
     go_still_tail 11,(by kernel_rfl)
     go_wp2_with fail
     go_roundg (st2.length+1)
     case measure=>omega
     case rel=>
      have hb1:aS w1.drew t #[.slice (some ⟨b,off,none⟩) (st2++[(op,ol)]).length cap] 105:=by rw[←HW1.out];exact hv
      have afZ:Kp B [105] W w1.drew:=by rw[←HW1.out];exact(hkp.drewN nq).drew
      have hs1:Sl w1.drew B 160 2 (.slice (some ⟨b,off,none⟩) (st2++[(op,ol)]).length cap) (st2++[(op,ol)]).length (dh (st2++[(op,ol)])):=by rw[←HW1.out];exact hs
      refine⟨st2,⟨_,hb1.set 0 _,hBt,?_⟩,by omega,Uu.out,afZ.set hb1 (.inr ⟨hBt,by simp⟩) _ _⟩
      have hs2:=(hs1.take (m:=st2.length) (by simp)).kp ((Kp.refl B [105] w1.drew).set hb1 (.inr ⟨hBt,by simp⟩) 0 (.slice (some ⟨b,off,none⟩) st2.length cap)) (.inl (by decide))
      rwa [bW,List.take_append_of_le_length (by rw[bD];exact Nat.le_refl _),List.take_of_length_le (by rw[bD];exact Nat.le_refl _)] at hs2
structure Node where
 path:List UInt8
 kind:Int
 data:List UInt8
def yS(n:Node):List Value:=[sv n.path,.int .i64 n.kind,sv n.data]
def ak(l:List Node):List Value:=l.flatMap yS
theorem oK(l:List Node):(ak l).length=l.length*3:=by
 induction l with
 |nil=>rfl
 |cons o st ih=>simp only[ak,List.flatMap_cons,List.length_append,List.length_cons,yS,List.length_nil] at *;omega
theorem gW(a b:List Node):ak (a++b)=ak a++ak b:=by simp[ak]
theorem iJ(l:List Node)(k:Nat)(h:k<l.length):(ak l)[k*3]? =some (sv l[k].path)∧(ak l)[k*3+1]? =some (.int .i64 l[k].kind)∧(ak l)[k*3+2]? =some (sv l[k].data):=by
 have e:ak l=ak (l.take k)++(yS l[k]++ak (l.drop (k+1))):=by
  have e1:l=l.take k++(l[k] :: l.drop (k+1)):=by rw[←List.drop_eq_getElem_cons h,List.take_append_drop]
  have e2:ak (l[k] :: l.drop (k+1))=yS l[k]++ak (l.drop (k+1)):=rfl
  rw[←e2,←gW,←e1]
 have hl:(ak (l.take k)).length=k*3:=by rw[oK,List.length_take];omega
 refine⟨?_,?_,?_⟩ <;> rw[e,List.getElem?_append_right (by omega),hl]
 ·simp[yS]
 ·rw[show k*3+1-k*3=1 by omega];simp[yS]
 ·rw[show k*3+2-k*3=2 by omega];simp[yS]
def bP(k:Nat)(n:Node)(st:Opens):Option Opens:=
 if k=30∨aZ n.kind n.data=false then none
 else if k=0 then (if n.path=[]∧st.length≤5 then some st else none)
 else if (bV n.path st).1=true∧(bV n.path st).2.length≤5 then some (bV n.path st).2 else none
def fM(n:Node)(st:Opens):Opens:=if n.kind=4 then st++[(n.path,[])] else st
def bT:List Node→Nat→Opens→Int
 | [],_,_=> -1
 |n :: r,k,st=>match bP k n st with
  |none=>k
  |some st'=>bT r (k+1) (fM n st')
def bH(l:List Node):Int:=if l=[] then 0 else bT l 0 []
theorem Uw(dir:List UInt8)(st:Opens):(mX dir st).length≤st.length:=by
 unfold mX
 rw[List.length_reverse]
 exact Nat.le_trans (List.dropWhile_sublist _).length_le (by simp)
theorem Ux(p:List UInt8)(st:Opens):(bV p st).2.length≤st.length:=by
 have h:=Uw (aK p).1 st
 unfold bV
 simp only
 split
 ·exact h
 ·rename_i o ho
  split
  ·exact h
  ·have:0<(mX (aK p).1 st).length:=by
    cases hq:mX (aK p).1 st with
    |nil=>rw[hq] at ho;cases ho
    |cons a b=>simp
   simp;omega
theorem Uy:(Tryz.prog.info? 160).map (fun i=>(i.zero,i.size,i.bytes))=some (some (.agg #[.string ⟨#[]⟩,.string ⟨#[]⟩]),2,32):=by kernel_rfl
def Dq(l:List Node):Prop:=∀n∈l,n.path.length≤4611686018427387904∧n.data.length≤4611686018427387904
theorem QV(v:Value)(l:List Node)(w:World)(hv:Rd w 3 v l.length (ak l))(hT:Tabs w)(hfit:Dq l):
 Calls Tryz.prog 55 #[v] w fun e w'=>e=.returned (.int .i64 (bH l))∧Keeps Non w w':=by
 rcases Nat.eq_zero_or_pos l.length with h0|hpos
 ·obtain⟨a,c,rfl,-,-⟩:=hv.shape
  obtain rfl:l=[]:=List.eq_nil_of_length_eq_zero h0
  clear hv
  go_enter Tryz.func55,Tryz.ntmps55
  go_wp2_with fail
  go_ret
  exact⟨rfl,Keeps.refl _ _⟩
 ·obtain⟨b,off,cap,rfl,-,hnc,hcm,hbl,hc,-⟩:=hv.pos hpos
  have hwl:bH l=bT l 0 []:=by unfold bH;rw[if_neg (by intro e;rw[e] at hpos;simp at hpos)]
  rw[hwl]
  unfold maxLen at hcm
  have hne:((l.length:Int)==0)=false:=by rw[beq_eq_false_iff_ne];omega
  have HC:Hid (∀j,j<l.length*3→w.cell? ⟨b,off+j,none⟩=(ak l)[j]?):=hc
  have HT:=Lib.hid hT
  have qg:=Lib.hid hfit
  clear hc hv hT hwl hfit
  go_enter Tryz.func55,Tryz.ntmps55
  go_wp2_with fail
  go_loopw [12] (fun i wr=>∃(k:Nat) (st:Opens),k≤l.length∧k≤30∧i=.int .i64 k∧st.length≤k∧o8 wr w.heap.size w.heap.size st∧Kp w.heap.size [105,160] w wr∧Hid (bT l 0 []=bT (l.drop k) k st)) (fun i _=>l.length-(intOf i).toNat)
  case atStart=>exact⟨0,[],by omega,by omega,rfl,by simp,⟨_,aS.new w _ _,Nat.le_refl _,Sl.nil _ _ _ _⟩,(Kp.refl _ _ _).alloc _,rfl⟩
  case round=>
   obtain⟨k,st,hk,acz,rfl,hst,hsa,hkp,hwg⟩:=hrel
   by_cases hlt:k<l.length
   ·have hbelow:=hkp.below (Nat.le_refl _)
    have hat:=iJ l k hlt
    have hgo:bT l 0 []=match bP k l[k] st with
     |none=>(k:Int)
     |some st'=>bT (l.drop (k+1)) (k+1) (fM l[k] st'):=by
     rw[hwg.out,List.drop_eq_getElem_cons hlt];rfl
    have hf:=qg.out l[k] (List.getElem_mem hlt)
    generalize hN:l[k]=N at *
    obtain⟨p,kd,da⟩:=N
    simp only at hat hf
    have c0:wr.cell? ⟨b,off+k*3,none⟩=some (sv p):=(hbelow.cell (p:=⟨b,off+k*3,none⟩) hbl).trans ((HC.out _ (by omega)).trans hat.1)
    have c1:wr.cell? ⟨b,off+k*3+1,none⟩=some (.int .i64 kd):=(hbelow.cell (p:=⟨b,off+k*3+1,none⟩) hbl).trans ((HC.out _ (by omega)).trans hat.2.1)
    have c2:wr.cell? ⟨b,off+k*3+2,none⟩=some (sv da):=(hbelow.cell (p:=⟨b,off+k*3+2,none⟩) hbl).trans ((HC.out _ (by omega)).trans hat.2.2)
    have HTr:=Lib.hid (HT.out.below hbelow HT.out.top)
    unfold sv at c0 c2
    have hsz:(⟨da.toArray⟩:ByteArray).size≤maxLen:=by show da.toArray.size≤_;simp;unfold maxLen;omega
    have P9:=Lib.hid hsz
    have hpz:(⟨p.toArray⟩:ByteArray).size≤maxLen:=by show p.toArray.size≤_;simp;unfold maxLen;omega
    have HPZ:=Lib.hid hpz
    clear hsz hpz
    have Qa:=Lib.hid hgo
    have HKP:=Lib.hid hkp
    clear hat hgo hwg hkp hbelow hN hf
    go_upto_region 8 with(fail)
    obtain⟨w1,hw1⟩:∃w1,wr.alloc (.cells #[.string ⟨p.toArray⟩,.int .i64 kd,.string ⟨da.toArray⟩] 49)=w1:=⟨_,rfl⟩
    have hbox:aS w1 wr.heap.size #[.string ⟨p.toArray⟩,.int .i64 kd,.string ⟨da.toArray⟩] 49:=by rw[←hw1];exact aS.new _ _ _
    have Uz:o8 w1 w.heap.size w.heap.size st:=by
     obtain⟨va,hva,hBa,hsl⟩:=hsa
     rw[←hw1];exact⟨va,hva.alloc _,hBa,hsl.alloc _⟩
    have NU:Hid (Kp w.heap.size [105,160] w w1):=by rw[←hw1];exact HKP.out.alloc _
    have HT1:Hid (Tabs w1):=HT.out.below (NU.out.below (Nat.le_refl _)) HT.out.top
    rw[hw1]
    clear hw1 hsa HKP c0 c1 c2 HTr
    generalize hbx:wr.heap.size=bx at *
    clear hbx
    go_cut [6,51] (fun _ c wx=>(c=.bool true∧Hid (bT l 0 []=k)∧Keeps Non w wx)∨(c=.bool false∧∃st':Opens,k<30∧st'.length≤k∧o8 wx w.heap.size w.heap.size st'∧Kp w.heap.size [105,160] w wx∧
     aS wx bx #[.string ⟨p.toArray⟩,.int .i64 kd,.string ⟨da.toArray⟩] 49∧Hid (bT l 0 []=bT (l.drop (k+1)) (k+1) (fM ⟨p,kd,da⟩ st'))))
    case first=>
     have n0:w1.cell? ⟨bx,0,none⟩=some (.string ⟨p.toArray⟩):=hbox.cell 0
     have n1:w1.cell? ⟨bx,1,none⟩=some (.int .i64 kd):=hbox.cell 1
     have n2:w1.cell? ⟨bx,2,none⟩=some (.string ⟨da.toArray⟩):=hbox.cell 2
     have NV:=Lib.hid hbox
     have hk30':Hid (k≤30):=acz
     clear hbox
     by_cases h30:k=30
     ·have hb:((k:Int)==30)=true:=by rw[beq_iff_eq];omega
      have HF:Hid (bT l 0 []=k):=by
       show _=_
       rw[Qa.out]
       unfold bP
       rw[if_pos (.inl h30)]
      clear h30
      go_wp2_with fail
      go_meet
      exact .inl ⟨rfl,HF.out,NU.out.keeps (Nat.le_refl _)⟩
     ·have hb:((k:Int)==30)=false:=by rw[beq_eq_false_iff_ne];omega
      cases hd:aZ kd da with
      |false=>
       have HF:Hid (bT l 0 []=k):=by
        show _=_
        rw[Qa.out]
        unfold bP
        rw[if_pos (.inr hd)]
       have HD:=Lib.hid hd
       clear hd h30
       go_wp2_with fail
       refine(sH kd ⟨da.toArray⟩ _ P9.out).mono ?_
       rintro e w2 ⟨rfl,rfl⟩
       rw[show aZ kd (⟨da.toArray⟩:ByteArray).data.toList=false from HD.out]
       go_wp2_with fail
       go_meet
       exact .inl ⟨rfl,HF.out,NU.out.keeps (Nat.le_refl _)⟩
      |true=>
       have HD:=Lib.hid hd
       have hdd:¬(k=30∨aZ kd da=false):=by rw[hd];simp;omega
       have IU:=Lib.hid hdd
       clear hd hdd
       by_cases hk0:k=0
       ·have hz:((k:Int)==0)=true:=by rw[beq_iff_eq];omega
        by_cases hp0:p=[]
        ·have hb0:(!p.isEmpty)=false:=by rw[hp0];rfl
         have HF:Hid (bT l 0 []=bT (l.drop (k+1)) (k+1) (fM ⟨p,kd,da⟩ st)):=by
          show _=_
          rw[Qa.out]
          unfold bP
          rw[if_neg IU.out,if_pos hk0,if_pos ⟨hp0,by omega⟩]
         have hst5:decide ((5:Int)<(st.length:Int))=false:=by simp;omega
         have HSA:=Lib.hid Uz
         obtain⟨va,hva,hBa,hsl⟩:=Uz
         obtain⟨aa,ac,rfl,-,-⟩:=hsl.shape
         have d0:w1.cell? ⟨w.heap.size,0,none⟩=some (.slice aa st.length ac):=hva.cell 0
         have hk3:k<30:=by omega
         clear hp0 hk0 h30 hva hsl
         go_wp2_with fail
         refine(sH kd ⟨da.toArray⟩ _ P9.out).mono ?_
         rintro e w2 ⟨rfl,rfl⟩
         rw[show aZ kd (⟨da.toArray⟩:ByteArray).data.toList=true from HD.out]
         go_wp2_with fail
         go_meet
         exact .inr ⟨rfl,st,hk3,hst,HSA.out,NU.out,NV.out,HF.out⟩
        ·have hb0:(!p.isEmpty)=true:=by rw[List.isEmpty_eq_false_iff.2 hp0];rfl
         have HF:Hid (bT l 0 []=k):=by
          show _=_
          rw[Qa.out]
          unfold bP
          rw[if_neg IU.out,if_pos hk0,if_neg (fun h=>hp0 h.1)]
         clear hp0 hk0 h30
         go_wp2_with fail
         refine(sH kd ⟨da.toArray⟩ _ P9.out).mono ?_
         rintro e w2 ⟨rfl,rfl⟩
         rw[show aZ kd (⟨da.toArray⟩:ByteArray).data.toList=true from HD.out]
         go_wp2_with fail
         go_meet
         exact .inl ⟨rfl,HF.out,NU.out.keeps (Nat.le_refl _)⟩
       ·have hz:((k:Int)==0)=false:=by rw[beq_eq_false_iff_ne];omega
        have hc:=Ux p st
        have vJ:=Lib.hid hk0
        have hk3:k<30:=by omega
        clear hk0 h30
        go_wp2_with fail
        refine(sH kd ⟨da.toArray⟩ _ P9.out).mono ?_
        rintro e w2 ⟨rfl,rfl⟩
        rw[show aZ kd (⟨da.toArray⟩:ByteArray).data.toList=true from HD.out]
        go_wp2_with fail
        refine(Ut w.heap.size w.heap.size st ⟨p.toArray⟩ _ HPZ.out HT1.out HT.out.top Uz).mono ?_
        rintro e w2 ⟨rfl,Yh,Ae⟩
        have hpp:(⟨p.toArray⟩:ByteArray).data.toList=p:=rfl
        rw[hpp] at Yh ⊢
        have UA:Hid (Kp w.heap.size [105,160] w w2):=NU.out.trans Ae
        have JV:Hid (aS w2 bx #[.string ⟨p.toArray⟩,.int .i64 kd,.string ⟨da.toArray⟩] 49):=NV.out.kp Ae (.inr (by decide))
        clear n0 n1 n2 Ae Uz hpp
        generalize hcb:bV p st=cb at *
        obtain⟨cb1,st2⟩:=cb
        simp only at Yh hc ⊢
        have HSA:=Lib.hid Yh
        obtain⟨va,hva,hBa,hsl⟩:=Yh
        obtain⟨aa,ac,rfl,-,-⟩:=hsl.shape
        have d0:w2.cell? ⟨w.heap.size,0,none⟩=some (.slice aa st2.length ac):=hva.cell 0
        have X0:=Lib.hid hcb
        clear hcb hva hsl
        cases cb1 with
        |false=>
         have HF:Hid (bT l 0 []=k):=by
          show _=_
          rw[Qa.out]
          unfold bP
          rw[if_neg IU.out,if_neg vJ.out]
          simp only[X0.out]
          simp
         go_wp2_with fail
         go_meet
         exact .inl ⟨rfl,HF.out,UA.out.keeps (Nat.le_refl _)⟩
        |true=>
         by_cases h5:st2.length≤5
         ·have hst5:decide ((5:Int)<(st2.length:Int))=false:=by simp;omega
          have HF:Hid (bT l 0 []=bT (l.drop (k+1)) (k+1) (fM ⟨p,kd,da⟩ st2)):=by
           show _=_
           rw[Qa.out]
           unfold bP
           rw[if_neg IU.out,if_neg vJ.out]
           simp only[X0.out]
           rw[if_pos ⟨trivial,h5⟩]
          have hl2:st2.length≤k:=by omega
          clear h5
          go_wp2_with fail
          go_meet
          exact .inr ⟨rfl,st2,hk3,hl2,HSA.out,UA.out,JV.out,HF.out⟩
         ·have hst5:decide ((5:Int)<(st2.length:Int))=true:=by simp;omega
          have HF:Hid (bT l 0 []=k):=by
           show _=_
           rw[Qa.out]
           unfold bP
           rw[if_neg IU.out,if_neg vJ.out]
           simp only[X0.out]
           rw[if_neg (fun h=>h5 h.2)]
          clear h5
          go_wp2_with fail
          go_meet
          exact .inl ⟨rfl,HF.out,UA.out.keeps (Nat.le_refl _)⟩
    case rest=>
     rcases hcut with⟨rfl,hF,hK⟩|⟨rfl,st',hk3,hst',hsa',hkp',hbox',hF⟩
     ·have HK:=Lib.hid hK
      clear hK
      go_wp2_with fail
      go_ret
      exact⟨jU hF.out.symm,HK.out⟩
     ·have n0:wc.cell? ⟨bx,0,none⟩=some (.string ⟨p.toArray⟩):=hbox'.cell 0
      have n1:wc.cell? ⟨bx,1,none⟩=some (.int .i64 kd):=hbox'.cell 1
      by_cases h4:kd=4
      ·have hb4:(kd==4)=true:=by rw[h4];rfl
       have hpu:fM ⟨p,kd,da⟩ st'=st'++[(p,[])]:=by unfold fM;exact if_pos h4
       rw[hpu] at hF
       obtain⟨va,hva,hBa,hsl⟩:=hsa'
       obtain⟨aa,ac,rfl,-,-⟩:=hsl.shape
       have d0:wc.cell? ⟨w.heap.size,0,none⟩=some (.slice aa st'.length ac):=hva.cell 0
       have HF:=Lib.hid hF.out
       have NV:=Lib.hid hbox'
       clear h4 hF hbox' hpu NU HT1 hbox Uz
       have HKX:=Lib.hid hkp'
       clear hkp'
       obtain⟨i0,hi,hz0,hz1,hz2⟩:=info_parts Uy
       go_wp2_with (at_builtin;go_loud (refine jD rfl _ _ 105 105 rfl 160 i0 (.agg #[.string ⟨#[]⟩,.string ⟨#[]⟩]) 2 32 Tryz.underlying105 hi hz0 hz1 hz2 rfl w.heap.size _ _ _ rfl _ rfl 1 [.string ⟨p.toArray⟩,.string ⟨#[]⟩] ?c1 (hsl.alloc _) ?c2 ?c3 ?c4 ?_))
       case c1=>have:=HKX.out.size;simp;omega
       case c2=>exact Src.kP Tryz.underlying105 (Sl.dM wc 0 (Nat.zero_le _) 160 2 1 [.string ⟨p.toArray⟩,.string ⟨#[]⟩] rfl (by simp[maxLen])) (by simp[Value.oneCell'])
       case c3=>unfold maxLen;omega
       case c4=>omega
       intro v' w2 hs2 hk2 hb2
       obtain⟨ao,cc,rfl,-,-⟩:=hs2.shape
       have Ae:Kp w.heap.size [105,160] w w2:=(HKX.out.alloc _).trans' hk2 (.inr ⟨Nat.le_refl _,by simp⟩)
       have Yi:=(hva.alloc (.cells #[.string ⟨p.toArray⟩,.string ⟨#[]⟩] 160)).kp hk2 (.inr (by decide))
       have f2:=Yi.free 0
       have d2:w2.cell? ⟨w.heap.size,0,none⟩=some (.slice aa st'.length ac):=Yi.cell 0
       have UA:=Lib.hid Ae
       have aas:=Lib.hid Yi
       have af4:=Lib.hid hs2
       clear hb2 hsl hva d0 hi hz0 hz1 hz2 Ae Yi hs2 hk2 HKX NV n0 n1
       go_wp2_with fail
       go_roundw
       case measure=>simp only[intOf];omega
       case rel=>
        refine⟨k+1,st'++[(p,[])],by omega,by omega,rfl,by simp;omega,⟨_,aas.out.set 0 _,Nat.le_refl _,?_⟩,UA.out.set aas.out (.inr ⟨Nat.le_refl _,by simp⟩) _ _,HF.out⟩
        have:=af4.out.kp ((Kp.refl w.heap.size [105] w2).set aas.out (.inr ⟨Nat.le_refl _,by simp⟩) 0 (.slice ao (st'.length+1) cc)) (.inl (by decide))
        rw[bW]
        simpa [dh,sv] using this
      ·have hb4:(kd==4)=false:=by rw[beq_eq_false_iff_ne];exact h4
       have hpu:fM ⟨p,kd,da⟩ st'=st':=by unfold fM;exact if_neg h4
       rw[hpu] at hF
       clear h4 hpu
       have HF:=Lib.hid hF.out
       clear hF
       go_wp2_with fail
       go_roundw
       case measure=>simp only[intOf];omega
       case rel=>exact⟨k+1,st',by omega,by omega,rfl,by omega,hsa',hkp',HF.out⟩
   ·have hlen:l.drop k=[]:=List.drop_eq_nil_of_le (by omega)
    have HF:Hid (bT l 0 []= -1):=by
     show _=_
     rw[hwg.out,hlen];rfl
    have HKP:=Lib.hid hkp
    clear hlen hwg hkp
    go_wp2_with fail
    go_ret
    exact⟨jU HF.out.symm,HKP.out.keeps (Nat.le_refl _)⟩
end Go.Proofs.YtdkogijdfgfpeaaGreatDoor

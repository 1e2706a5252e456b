/- The document's store: Insert. -/
import Derived.Test.YtdkogijdfgfpeaaGreatDoorZQPut
import Derived.Test.YtdkogijdfgfpeaaGreatDoorZGet
import Derived.Test.YtdkogijdfgfpeaaGreatDoorZClosP
import Derived.Test.YtdkogijdfgfpeaaGreatDoorZLState
set_option linter.unusedVariables false
namespace Go.Proofs.YtdkogijdfgfpeaaGreatDoor
open Go Go.RowKit
set_option maxHeartbeats 3200000
set_option maxRecDepth 100000
def jF(w:World)(G:Nat→Prop)(r:Nat)(R:Int×aH)(ed:Ending)(w':World):Prop:=
 ed=.returned (.int .i64 R.1)∧(∃G',CO w' G' r R.2∧∀k,G' k→G k∨(w.heap.size≤k∧k<w'.heap.size))∧Keeps G w w'
theorem jF.same{w w':World}{G:Nat→Prop}{r:Nat}{L:aH}{z:Int}(h:CO w G r L)(k:Keeps Non w w'):jF w G r (z,L) (.returned (.int .i64 z)) w':=
 ⟨rfl,⟨G,h.non k,fun _ h=>.inl h⟩,k.mono fun _ _ h=>h.elim⟩
theorem Qp(L:aH)(p:List UInt8):mO L p≤L.length:=by
 unfold mO
 exact(List.takeWhile_prefix _).length_le
theorem kE.put{S G G':Nat→Prop}{w w':World}{L:aH}{v v':Value}{T:List (Value×Value×Value)}(h:kE w G L v T)(k:Keeps S w w')(hs:∀b,G b→¬S b){e:dI}{x:Value×Value×Value}(hx:KC w' G' e x)(hg:∀b,G b→G' b)
 (hsl:Sl w' 0 FT 3 v' (T.length+1) (trip (T.take (mO L e.path)++x :: T.drop (mO L e.path)))) (hown:∀b,v'.ownBlock=some b→G' b):kE w' G' (ou L e) v' (T.take (mO L e.path)++x :: T.drop (mO L e.path)):=by
 have hk:=Qp L e.path
 have hlen:(T.take (mO L e.path)++x :: T.drop (mO L e.path)).length=T.length+1:=by
  have:=h.len
  simp
  omega
 refine⟨by rw[hlen];exact hsl,hown,by rw[hlen,ni,h.len],fun i e' x' he hx'=>?_⟩
 rw[Ql] at he
 generalize mO L e.path=q at *
 have hl:=h.len
 by_cases hi:i<q
 ·rw[List.getElem?_append_left (by rw[List.length_take];omega),List.getElem?_take,if_pos hi] at he hx'
  exact((h.ents i e' x' he hx').keeps k hs).wide hg
 ·rw[List.getElem?_append_right (by rw[List.length_take];omega),List.length_take] at he hx'
  rw[Nat.min_eq_left hk] at he
  rw[Nat.min_eq_left (by omega)] at hx'
  cases hd:i-q with
  |zero=>
   rw[hd] at he hx'
   simp only[List.getElem?_cons_zero,Option.some.injEq] at he hx'
   subst he hx'
   exact hx
  |succ j=>
   rw[hd] at he hx'
   simp only[List.getElem?_cons_succ,List.getElem?_drop] at he hx'
   exact((h.ents (q+j) e' x' he hx').keeps k hs).wide hg
theorem Ro{G:Nat→Prop}{r:Nat}{L:aH}{w w8 w9 wa w10:World}{qa:Option Addr}{qc:Nat}{T:List (Value×Value×Value)}{name:List UInt8}{l:List Node}{refs:List (List UInt8)}{vt vr v' nmv:Value}
 (HQ:CO w G r L) (acR:r<w.heap.size) (Cc:kE w (fun k=>G k∧k≠r) L (.slice qa T.length qc) T) (yM:T.length=L.length) (Ce:Keeps Non w w8) (yF:Keeps Non w8 w9) (hk10:Keeps Non w9 w10) (YF:aS w10 r #[.slice qa T.length qc] TQ)
 (HT8:Sl w8 w.heap.size 49 3 vt l.length (ak l)) (KR:Sl w8 w.heap.size 9 1 vr refs.length (bf refs))
 (hs10:Sl w10 wa.heap.size 165 3 v' (T.length+1) (trip (T.take (mO L name)++(nmv,vt,vr) :: T.drop (mO L name)))) (hnm:nmv=sv name) {R:Int×aH} (hins:R=(0,ou L ⟨name,l,refs⟩)) (hwa:w.heap.size≤wa.heap.size):
 jF w G r (0,ou L ⟨name,l,refs⟩) (.returned (.int .i64 0)) (w10.setCell ⟨r,0,none⟩ v'):=by
 have hk:Keeps Non w w10:=(Ce.trans yF fun _ h=>h.elim).trans hk10 fun _ h=>h.elim
 have ZG:Keeps Non w8 w10:=yF.trans hk10 fun _ h=>h.elim
 have hkr:Keeps G w (w10.setCell ⟨r,0,none⟩ v'):=(hk.mono fun _ _ h=>h.elim).setCell _ _ (.inl HQ.own)
 have hne:∀b,w.heap.size≤b→b≠r:=fun b hb e=>by omega
 have hset:Keeps (One r) w10 (w10.setCell ⟨r,0,none⟩ v'):=(Keeps.refl _ _).setCell _ _ (.inl rfl)
 have hsz:(w10.setCell ⟨r,0,none⟩ v').heap.size=w10.heap.size:=by simp[World.setCell]
 have ht:Sl (w10.setCell ⟨r,0,none⟩ v') w.heap.size 49 3 vt l.length (ak l):=HT8.keep fun b c _ hB hbk=>(hbk.keeps ZG fun h=>h).jT _ _ (hne b hB)
 have hs:Sl (w10.setCell ⟨r,0,none⟩ v') w.heap.size 9 1 vr refs.length (bf refs):=KR.keep fun b c _ hB hbk=>(hbk.keeps ZG fun h=>h).jT _ _ (hne b hB)
 have hl:Sl (w10.setCell ⟨r,0,none⟩ v') w.heap.size 165 3 v' (T.length+1) (trip (T.take (mO L name)++(nmv,vt,vr) :: T.drop (mO L name))):=(hs10.mono hwa).keep fun b c _ hB hbk=>hbk.jT _ _ (hne b hB)
 refine⟨rfl,⟨fun k=>G k∨(w.heap.size≤k∧k<(w10.setCell ⟨r,0,none⟩ v').heap.size),⟨fun k hk2=>?_,.inl HQ.own,v',T.take (mO L name)++(nmv,vt,vr) :: T.drop (mO L name),YF.set 0 _,?_⟩,fun k hk2=>hk2⟩,hkr⟩
 ·rcases hk2 with h|h
  ·exact Nat.lt_of_lt_of_le (HQ.lt k h) hkr.size
  ·exact h.2
 ·refine kE.put (e:=⟨name,l,refs⟩) (Cc.non hk) hset (fun b hb e=>hb.2 e) ⟨hnm,ht.rd,hs.rd,fun b hb=>?_,fun b hb=>?_⟩ (fun b hb=>⟨.inl hb.1,hb.2⟩) (hl.mono (Nat.zero_le _)) fun b hb=>?_
  ·exact⟨.inr (ht.own b hb),hne b (ht.own b hb).1⟩
  ·exact⟨.inr (hs.own b hb),hne b (hs.own b hb).1⟩
  ·exact⟨.inr (hl.own b hb),hne b (hl.own b hb).1⟩
theorem KT{G:Nat→Prop}{r:Nat}{L:aH}(w:World)(h:CO w G r L)(hok:bK L)(hfl:∀e∈L,mM e)(name:ByteArray)(hn:name.size≤1099511627776)(l:List Node)(v:Value)(hv:Rd w 3 v l.length (ak l))(hfit:jr l)(hll:l.length≤1099511627776)(hpl:(aJ l).length≤70368744177664)
 (refs:List (List UInt8)) (vr:Value) (hr:Rd w 1 vr refs.length (bf refs)) (hrl:refs.length≤1099511627776) (hrs:∀x∈refs,x.length≤1099511627776):
 Calls Tryz.prog 61 #[pv r,.string name,v,vr] w (jF w G r (qN L name.data.toList l refs)):=by
 have HQ:=Lib.hid h
 have HV:=Lib.hid hv
 have HF:=Lib.hid hfit
 have HR:=Lib.hid hr
 have HRS:=Lib.hid hrs
 have Uc:=Lib.hid hpl
 have vg:=Lib.hid hok
 have Rq:=Lib.hid hfl
 obtain⟨va,vc,rfl,hc1,hc2⟩:=hr.shape
 obtain⟨ta,tc,rfl,ht1,ht2⟩:=hv.shape
 unfold maxLen at hc2 ht2
 have Vp:=UW l
 obtain⟨vq,T,g1,g2⟩:=h.mem
 obtain⟨qa,qc,rfl,hq1,hq2⟩:=g2.sl.shape
 have Cc:=Lib.hid g2
 have OA:=Lib.hid g1
 have yM:Hid (T.length=L.length):=g2.len
 have acR:Hid (r<w.heap.size):=h.lt r h.own
 clear h hv hfit hr hrs hpl hok hfl g1 g2
 unfold pv
 go_enter Tryz.func61,Tryz.ntmps61
 go_wp2_with fail
 refine(GU _ _ hn).mono ?_
 rintro e w1 ⟨rfl,rfl⟩
 cases hp:fF name.data.toList with
 |false=>
  have HP:=Lib.hid hp
  clear hp
  go_wp2_with fail
  go_ret
  rw[Ve HP.out]
  exact jF.same HQ.out (Keeps.refl _ _)
 |true=>
 have HP:=Lib.hid hp
 clear hp
 go_wp2_with fail
 refine(N7 _ l _ HV.out (fun n hn=>by have:=HF.out n hn;omega)).mono ?_
 rintro e w2 ⟨rfl,hk2⟩
 rw[←Vp]
 have iP:=Lib.hid hk2
 clear hk2 Vp
 by_cases hw:0≤bH l
 ·have HW:=Lib.hid hw
  have hd:decide (0≤bH l)=true:=decide_eq_true hw
  clear hw
  go_wp2_with fail
  go_ret
  rw[Vf HP.out HW.out]
  exact jF.same HQ.out iP.out
 have hd:decide (0≤bH l)=false:=decide_eq_false hw
 have hw1:bH l= -1:=by
  rcases vO l with e|e
  ·exact e
  ·exact absurd e hw
 have HW:=Lib.hid hw1
 clear hw hw1
 have HRW:=Lib.hid (HR.out.non iP.out)
 go_wp2_with fail
 go_loopg [22] refs.length (fun gk iv wr=>∃k:Nat,gk=refs.length-k∧k≤refs.length∧iv=.int .i64 k∧Hid (Keeps Non w2 wr)∧Hid (∀j (h:j+1<k) (h2:k≤refs.length),Op.bytesLess (refs[j]'(by omega)) (refs[j+1]'(by omega))=true))
 case atStart=>exact⟨0,rfl,Nat.zero_le _,rfl,Keeps.refl _ _,fun j h _=>by omega⟩
 case round=>
  obtain⟨k,rfl,hk,rfl,kL,HA⟩:=hrel
  by_cases hlt:k<refs.length
  ·obtain⟨b,off,cp,hsh,-,-,-,hbl,hc,-⟩:=(HRW.out.non kL.out).pos (by omega)
   cases hsh
   have d0:wr.cell? ⟨b,off+k,none⟩=some (sv refs[k]):=(hc k (by omega)).trans (dJ refs k hlt)
   rcases Nat.eq_zero_or_pos k with h0|h0
   ·subst h0
    clear hc d0
    go_upto_region 8 with(fail)
    go_quiet (fail)
    go_wp2_with fail
    go_roundg (refs.length-1)
    case measure=>omega
    case rel=>exact⟨1,rfl,by omega,by go_num,kL.out.drewN _,fun j h _=>by omega⟩
   ·obtain⟨j,rfl⟩:∃j,k=j+1:=⟨k-1,by omega⟩
    have hj:j<refs.length:=by omega
    have d1:wr.cell? ⟨b,off+j,none⟩=some (sv refs[j]):=(hc j (by omega)).trans (dJ refs j hj)
    have HX:Hid (refs[j]? =some refs[j]∧refs[j+1]? =some refs[j+1]):=⟨List.getElem?_eq_getElem hj,List.getElem?_eq_getElem hlt⟩
    unfold sv at d0 d1
    clear hc
    generalize refs[j]=x at *
    generalize refs[j+1]=y at *
    obtain⟨j1,hj1⟩:∃j1,j1=j+1:=⟨_,rfl⟩
    have e1:IntKind.i64.wrap (((j+1:Nat):Int)-1)=(j:Int):=by rw[IntWalk.i64_in _ (by omega)];omega
    have e2:(0:Int)≤(j:Int):=by omega
    have e3:(j:Int)<(refs.length:Int):=by omega
    have e4:decide ((0:Int)<((j+1:Nat):Int))=true:=decide_eq_true (by omega)
    have e5:decide (0<j+1)=true:=decide_eq_true (by omega)
    have e6:(0:Int)≤((j+1:Nat):Int):=by omega
    have e7:((j+1:Nat):Int)<(refs.length:Int):=by omega
    clear hj1
    cases hl:Op.bytesLess x y with
    |true=>
     have hl2:(Op.bytesLess y x||y==x)=false:=by
      have h3:=wR y x
      rw[hl,pY] at h3
      exact h3
     have HL:=Lib.hid hl
     clear hl
     go_upto_region 8 with(fail)
     go_quiet (fail)
     go_wp2_with fail
     go_roundg (refs.length-(j+1+1))
     case measure=>omega
     case rel=>
      refine⟨j+1+1,rfl,by omega,by go_num,kL.out.drewN _,fun i hi hi2=>?_⟩
      by_cases hij:i=j
      ·subst hij
       have hh:=HL.out
       have h1:=HX.out.1
       have h2:=HX.out.2
       rw[List.getElem?_eq_getElem hj,Option.some.injEq] at h1
       rw[List.getElem?_eq_getElem hlt,Option.some.injEq] at h2
       rw[h1,h2]
       exact hh
      ·exact HA.out i (by omega) (by omega)
    |false=>
     have hl2:(Op.bytesLess y x||y==x)=true:=by
      have h3:=wR y x
      rw[hl,pY] at h3
      exact h3
     have HL:=Lib.hid hl
     clear hl
     go_upto_region 8 with(fail)
     go_quiet (fail)
     go_wp2_with fail
     go_ret
     have hrf:dB refs=false:=by
      cases hb:dB refs with
      |false=>rfl
      |true=>
       have h3:=(qQ refs).1 hb j hlt
       have h1:=HX.out.1
       have h2:=HX.out.2
       rw[List.getElem?_eq_getElem hj,Option.some.injEq] at h1
       rw[List.getElem?_eq_getElem hlt,Option.some.injEq] at h2
       rw[h1,h2,HL.out] at h3
       cases h3
     rw[Vg HP.out HW.out hrf]
     exact jF.same HQ.out ((iP.out.trans kL.out fun _ h=>h.elim).drewN _)
  ·have hk2:refs.length=k:=by omega
   subst hk2
   have hrise:Hid (dB refs=true):=(qQ refs).2 fun j hj=>HA.out j hj (Nat.le_refl _)
   have wS:Hid (Keeps Non w wr):=iP.out.trans kL.out fun _ h=>h.elim
   clear HA kL HRW
   generalize wr=w3 at *
   go_wp2_with fail
   go_loopg [42] refs.length (fun gk iv wr=>∃k:Nat,gk=refs.length-k∧k≤refs.length∧iv=.int .i64 k∧Hid (Keeps Non w wr)∧Hid (∀x∈refs.take k,x=name.data.toList∨(aA L x).isSome=true))
   case atStart=>exact⟨0,rfl,Nat.zero_le _,rfl,wS,by show ∀x∈_,_;simp⟩
   case round=>
    clear wS
    obtain⟨k,rfl,hk,rfl,ng,HB⟩:=hrel
    have acS:=Lib.hid (Cc.out.non ng.out)
    have cr:=(OA.out.keeps ng.out fun h=>h).cell 0
    simp only[List.getElem?_toArray,List.getElem?_cons_zero] at cr
    by_cases hlt:k<refs.length
    ·obtain⟨b,off,cp,hsh,-,-,-,hbl,hc,-⟩:=(HR.out.non ng.out).pos (by omega)
     cases hsh
     have d0:wr.cell? ⟨b,off+k,none⟩=some (sv refs[k]):=(hc k (by omega)).trans (dJ refs k hlt)
     have HX:Hid (refs[k]? =some refs[k]∧refs[k]∈refs):=⟨List.getElem?_eq_getElem hlt,List.getElem_mem _⟩
     clear hc
     generalize refs[k]=x at *
     unfold sv at d0
     by_cases hx:x=name.data.toList
     ·have hb:(!x==name.toList)=false:=by rw[ByteArray.toList_eq,hx];simp
      have Ud:=Lib.hid hx
      clear hx
      go_wp2_with fail
      go_roundg (refs.length-(k+1))
      case measure=>omega
      case rel=>
       refine⟨k+1,rfl,by omega,by go_num,ng,?_⟩
       show ∀y∈_,_
       intro y hy
       rw[List.take_add_one,HX.out.1,List.mem_append] at hy
       rcases hy with hy|hy
       ·exact HB.out y hy
       ·simp only[Option.toList_some,List.mem_singleton] at hy
        rw[hy]
        exact .inl Ud.out
     ·have hb:(!x==name.toList)=true:=by rw[ByteArray.toList_eq];simpa using hx
      have Ud:Hid (¬x=name.data.toList):=hx
      clear hx
      have oO:=acS.out.at ⟨x.toArray⟩
      rcases lN L x with⟨hf,hi⟩|⟨i,e,-,-,-,hi,-,hf⟩
      ·have wX:=Lib.hid hf
       have hi2:sS (L.map dI.path) (⟨x.toArray⟩:ByteArray).data.toList= -1:=hi
       rw[hi2] at oO
       have HAT:=Lib.hid oO
       clear oO hi hi2 hf
       go_wp2_with fail
       refine HAT.out.mono ?_
       rintro ed w6 ⟨rfl,hk6⟩
       have yU:Hid (Keeps Non w w6):=ng.out.trans hk6 fun _ h=>h.elim
       clear hk6 cr d0
       go_wp2_with fail
       go_ret
       rw[Vh HP.out HW.out hrise.out HX.out.2 Ud.out wX.out]
       exact jF.same HQ.out yU.out
      ·have wX:=Lib.hid hf
       have hi2:sS (L.map dI.path) (⟨x.toArray⟩:ByteArray).data.toList=(i:Int):=hi
       rw[hi2] at oO
       have HAT:=Lib.hid oO
       have dn:decide ((i:Int)<0)=false:=decide_eq_false (by omega)
       clear oO hi hi2 hf
       go_wp2_with fail
       refine HAT.out.mono ?_
       rintro ed w6 ⟨rfl,hk6⟩
       have yU:Hid (Keeps Non w w6):=ng.out.trans hk6 fun _ h=>h.elim
       clear hk6 cr d0
       go_wp2_with fail
       go_roundg (refs.length-(k+1))
       case measure=>omega
       case rel=>
        refine⟨k+1,rfl,by omega,by go_num,yU,?_⟩
        show ∀y∈_,_
        intro y hy
        rw[List.take_add_one,HX.out.1,List.mem_append] at hy
        rcases hy with hy|hy
        ·exact HB.out y hy
        ·simp only[Option.toList_some,List.mem_singleton] at hy
         rw[hy]
         exact .inr wX.out
    ·have hk2:refs.length=k:=by omega
     subst hk2
     have YG:Hid (Vj L name.data.toList l refs):=⟨HP.out,HW.out,hrise.out,fun x hx=>HB.out x (by rw[List.take_length];exact hx)⟩
     clear HB hrise
     generalize wr=w5 at *
     obtain⟨i0,hi,hi0,hi1,hi2⟩:=info_parts I4
     obtain⟨i1,hj,hj0,hj1,hj2⟩:=info_parts lM
     have hsz5:=ng.out.size
     go_wp2_with (at_builtin;refine ay rfl _ _ 50 50 rfl 49 i0 _ 3 40 Tryz.underlying50 hi hi0 hi1 hi2 rfl w.heap.size _ 0 [] rfl _ rfl l.length (ak l) ?d11 (Sl.nil _ _ _ _) ?d12 ?d13 ?Gg ?_)
     try (case d11=>exact hsz5)
     case d12=>exact Src.yY Tryz.underlying50 (HV.out.non ng.out) (Am l)
     case d13=>unfold maxLen;omega
     case Gg=>omega
     intro JL JM w6 hs6 hk6 Vq hb6
     have Uf:Hid (Sl w6 w.heap.size 49 3 (.slice JL l.length JM) l.length (ak l)):=by
      show Sl _ _ _ _ _ _ _
      simpa using hs6
     have yU:Hid (Keeps Non w w6):=ng.out.trans Vq fun j hj=>by cases hj
     clear hs6 hk6 Vq hb6 cr acS
     have OB:=yU.out.size
     go_wp2_with (at_builtin;refine ay rfl _ _ 26 26 rfl 9 i1 _ 1 16 Tryz.underlying26 hj hj0 hj1 hj2 rfl w.heap.size _ 0 [] rfl _ rfl refs.length (bf refs) ?Om (Sl.nil _ _ _ _) ?Oo ?Oq ?Ot ?_)
     try (case Om=>exact OB)
     case Oo=>exact Src.yY Tryz.underlying26 (HR.out.non yU.out) (fun u hu=>by obtain⟨_,_,rfl⟩:=List.mem_map.1 hu;rfl)
     case Oq=>unfold maxLen;omega
     case Ot=>omega
     intro FU BG w7 hs7 xg KU hb7
     have X7:Hid (Sl w7 w.heap.size 9 1 (.slice FU refs.length BG) refs.length (bf refs)):=by
      show Sl _ _ _ _ _ _ _
      simpa using hs7
     have HT7:Hid (Sl w7 w.heap.size 49 3 (.slice JL l.length JM) l.length (ak l)):=Uf.out.keep fun b c _ _ hbk=>hbk.keeps KU fun hj=>by cases hj
     have OC:Hid (Keeps Non w w7):=yU.out.trans KU fun j hj=>by cases hj
     clear hs7 xg KU hb7 Uf hsz5 OB hi hi0 hi1 hi2 hj hj0 hj1 hj2
     go_upto_region 18 with(fail)
     have hk8:Keeps Non w (w7.alloc (.cells #[.string name,.slice JL l.length JM,.slice FU refs.length BG] 165)):=OC.out.alloc _
     have hb8:=aS.new w7 #[.string name,.slice JL l.length JM,.slice FU refs.length BG] 165
     have hs8:=X7.out.alloc (.cells #[.string name,.slice JL l.length JM,.slice FU refs.length BG] 165)
     have Vr:=HT7.out.alloc (.cells #[.string name,.slice JL l.length JM,.slice FU refs.length BG] 165)
     have agW:=OC.out.size
     obtain⟨w8,hw8⟩:∃w8,w8=w7.alloc (.cells #[.string name,.slice JL l.length JM,.slice FU refs.length BG] 165):=⟨_,rfl⟩
     obtain⟨eb,heb⟩:∃eb,eb=w7.heap.size:=⟨_,rfl⟩
     rw[←hw8] at hk8 hb8 hs8 Vr
     rw[←heb] at hb8 agW
     rw[←hw8,←heb]
     have Ce:=Lib.hid hk8
     have HB8:=Lib.hid hb8
     have KR:=Lib.hid hs8
     have HT8:=Lib.hid Vr
     clear hw8 heb hk8 hb8 hs8 Vr X7 HT7
     have YH:=Lib.hid (Cc.out.non Ce.out)
     have YI:=Lib.hid (OA.out.keeps Ce.out fun h=>h)
     have cr:=YI.out.cell 0
     simp only[List.getElem?_toArray,List.getElem?_cons_zero] at cr
     have oO:=YH.out.at name
     rcases lN L name.data.toList with⟨hf,hi⟩|⟨i,e,hLi,hel,oz,hi,hil,hf⟩
     ·have wX:=Lib.hid hf
      rw[hi] at oO
      have HAT:=Lib.hid oO
      clear oO hi hf
      go_wp2_with fail
      refine HAT.out.mono ?_
      rintro ed w9 ⟨rfl,hk9⟩
      have yF:Hid (Keeps Non w8 w9):=hk9
      clear hk9 cr HAT
      have cr:=(YI.out.keeps yF.out fun h=>h).cell 0
      simp only[List.getElem?_toArray,List.getElem?_cons_zero] at cr
      by_cases h10:T.length=10
      ·have hb:((T.length:Int)==10)=true:=by rw[h10];rfl
       have Gi:Hid (L.length=10):=by show _=_;rw[←yM.out];exact h10
       clear h10
       go_wp2_with fail
       go_ret
       have hins:qN L name.data.toList l refs=(14,L):=by rw[vT YG.out,wX.out,if_pos Gi.out]
       rw[hins]
       exact jF.same HQ.out (Ce.out.trans yF.out fun _ h=>h.elim)
      ·have hb:((T.length:Int)==10)=false:=by rw[beq_eq_false_iff_ne];omega
       have Gi:Hid (¬L.length=10):=by show ¬_;rw[←yM.out];exact h10
       clear h10
       go_upto_region 25 with(fail)
       have hsv:sv name.data.toList=.string name:=by simp[sv]
       have Jk:Hid (∀wx,Keeps Non w9 wx→Calls Tryz.prog 100 #[.slice qa T.length qc,.agg #[.string name,.slice JL l.length JM,.slice FU refs.length BG]] wx fun e w'=>∃v',e=.returned v'∧Sl w' wx.heap.size 165 3 v' (T.length+1) (trip (T.take (mO L name.data.toList)++(sv name.data.toList,.slice JL l.length JM,.slice FU refs.length BG) :: T.drop (mO L name.data.toList)))∧Keeps Non wx w'):=fun wx hk=>by
        have h1:=KN wx ((YH.out.non yF.out).non hk) vg.out.ten name.data.toList JL FU l.length JM refs.length BG
        rw[hsv] at h1 ⊢
        exact h1
       have zX:=HB8.out.keeps yF.out fun h=>h
       have e0:=zX.cell 0
       have e1:=zX.cell 1
       have e2:=zX.cell 2
       simp only[List.getElem?_toArray,List.getElem?_cons_zero,List.getElem?_cons_succ] at e0 e1 e2
       have hr9:=YI.out.keeps yF.out fun h=>h
       have HR9:=Lib.hid hr9
       clear zX hr9
       go_region_with (go_at_call 100;refine(Jk.out _ (by first|exact Keeps.refl _ _|exact(Keeps.refl _ _).drew)).mono ?_;rintro ed w10 ⟨v',rfl,hs10,hk10⟩;obtain⟨pa1,pc1,rfl,-,-⟩:=hs10.shape;replace hk10:=(show Keeps Non w9 w10 by first|exact hk10|exact hk10.un);have acT:=(HR9.out.keeps hk10 fun h=>h).cell 0;have agX:=(HR9.out.keeps hk10 fun h=>h).free 0;simp only[List.getElem?_toArray,List.getElem?_cons_zero] at acT)
       all_goals (
        have agY:=hs10
        have hins:qN L name.data.toList l refs=(0,ou L ⟨name.data.toList,l,refs⟩):=by rw[vT YG.out,wX.out,if_neg Gi.out]
        have YF:=HR9.out.keeps hk10 fun h=>h
        have agZ:=Lib.hid (Ro HQ.out acR.out Cc.out yM.out Ce.out yF.out hk10 YF HT8.out KR.out hs10 rfl hins (by have h1:=Ce.out.size;have h2:=yF.out.size;first|exact Nat.le_trans h1 h2|(show w.heap.size≤w9.heap.size;exact Nat.le_trans h1 h2)))
        clear hs10 hk10 acT agX YF agY e0 e1 e2 cr
        go_wp2_with fail
        go_ret
        rw[hins]
        exact agZ.out)
     ·have hfe:aA L name.data.toList=some e:=by
       cases hfe:aA L name.data.toList with
       |none=>rw[hfe] at hf;cases hf
       |some e'=>
        obtain⟨he',hep'⟩:=jV hfe
        rw[vg.out.uniq he' hel (hep'.trans oz.symm)]
      have HFE:=Lib.hid hfe
      rw[hi] at oO
      have HAT:=Lib.hid oO
      have dn:decide ((0:Int)≤(i:Int))=true:=decide_eq_true (by omega)
      have hiT:i<T.length:=by rw[yM.out];exact hil
      obtain⟨x,hx⟩:∃x,T[i]? =some x:=⟨_,List.getElem?_eq_getElem hiT⟩
      have HX:=Lib.hid (YH.out.ents i e x hLi hx)
      have HXT:=Lib.hid hx
      have Vs:=Lib.hid (Rq.out e hel)
      have HG2:=Lib.hid (vg.out.good e hel)
      clear oO hi hf hfe hx hLi oz hel
      go_wp2_with fail
      refine HAT.out.mono ?_
      rintro ed w9 ⟨rfl,hk9⟩
      have yF:Hid (Keeps Non w8 w9):=hk9
      clear hk9 cr HAT
      have cr:=(YI.out.keeps yF.out fun h=>h).cell 0
      have zX:=HB8.out.keeps yF.out fun h=>h
      have e0:=zX.cell 0
      have e1:=zX.cell 1
      have e2:=zX.cell 2
      simp only[List.getElem?_toArray,List.getElem?_cons_zero,List.getElem?_cons_succ] at e0 e1 e2 cr
      obtain⟨b,off,cp,hsh,-,-,-,hbl,hc,-⟩:=(YH.out.non yF.out).rd.pos (by omega)
      cases hsh
      obtain⟨t1,t2,t3⟩:=o9 T i x HXT.out
      have Ug:=HX.out.keeps yF.out fun _ _ h=>h
      have c0:=(hc (i*3) (by omega)).trans t1
      have c1:=(hc (i*3+1) (by omega)).trans t2
      have c2:=(hc (i*3+2) (by omega)).trans t3
      obtain⟨x0,x1,x2⟩:=x
      have hp0:=Ug.path
      simp only at hp0 c0 c1 c2
      subst hp0
      obtain⟨xa1,BH,hx1,-,-⟩:=Ug.tree.shape
      obtain⟨yO,yP,hx2,-,-⟩:=Ug.refs.shape
      simp only at hx1 hx2
      subst hx1 hx2
      rw[←Nat.add_assoc] at c1 c2
      unfold sv at c0
      have pW:Hid (∀wx,Keeps Non w9 wx→Calls Tryz.prog 99 #[.agg #[.string ⟨e.path.toArray⟩,.slice xa1 e.tree.length BH,.slice yO e.refs.length yP],.agg #[.string name,.slice JL l.length JM,.slice FU refs.length BG]] wx fun ed w'=>ed=.returned (.bool (jM e ⟨name.data.toList,l,refs⟩))∧Keeps Non wx w'):=fun wx hk=>
       GY wx e ⟨name.data.toList,l,refs⟩ _ _ _ _ _ _ (Ug.tree.non hk) (Ug.refs.non hk) ((HT8.out.rd.non yF.out).non hk) ((KR.out.rd.non yF.out).non hk) HG2.out.2.1 HW.out Vs.out ⟨HF.out,Uc.out,hrl,HRS.out⟩
      have f1:(0:Int)≤(i:Int):=by omega
      have f2:(i:Int)<(T.length:Int):=by omega
      clear hc t1 t2 t3 Ug zX
      go_upto_region 20 with(fail)
      cases hse:jM e ⟨name.data.toList,l,refs⟩ with
      |true=>
       have Ue:=Lib.hid hse
       rw[hse] at pW
       clear hse
       have hins:qN L name.data.toList l refs=(0,L):=by rw[vT YG.out,HFE.out];simp[Ue.out]
       have aaE:=Lib.hid hins
       clear hins
       go_region_with (go_at_call 99;refine(pW.out _ (by first|exact Keeps.refl _ _|exact(Keeps.refl _ _).drew)).mono ?_;rintro ed w10 ⟨rfl,hk10⟩;replace hk10:=(show Keeps Non w9 w10 by first|exact hk10|exact hk10.un))
       all_goals (
        have Rt:Hid (Keeps Non w w10):=(Ce.out.trans yF.out fun _ h=>h.elim).trans hk10 fun _ h=>h.elim
        clear hk10
        go_wp2_with fail
        go_ret
        rw[aaE.out]
        exact jF.same HQ.out Rt.out)
      |false=>
       have Ue:=Lib.hid hse
       rw[hse] at pW
       clear hse
       have hins:qN L name.data.toList l refs=(12,L):=by rw[vT YG.out,HFE.out];simp[Ue.out]
       have aaE:=Lib.hid hins
       clear hins
       go_region_with (go_at_call 99;refine(pW.out _ (by first|exact Keeps.refl _ _|exact(Keeps.refl _ _).drew)).mono ?_;rintro ed w10 ⟨rfl,hk10⟩;replace hk10:=(show Keeps Non w9 w10 by first|exact hk10|exact hk10.un))
       all_goals (
        have Rt:Hid (Keeps Non w w10):=(Ce.out.trans yF.out fun _ h=>h.elim).trans hk10 fun _ h=>h.elim
        clear hk10
        go_wp2_with fail
        go_ret
        rw[aaE.out]
        exact jF.same HQ.out Rt.out)
theorem Rd.low{W0 w:World}{size n:Nat}{v:Value}{xs:List Value}(h:Rd W0 size v n xs)(k:Below W0.heap.size W0 w):Rd w size v n xs:=by
 obtain⟨h1,h2|⟨b',off,cap,rfl,h2,h3,h4,h5⟩⟩:=h
 ·exact⟨h1,.inl h2⟩
 ·exact⟨h1,.inr ⟨_,_,_,rfl,h2,h3,Nat.lt_of_lt_of_le h4 k.size,fun j hj=>(k.cell (p:=⟨b',off+j,none⟩) h4).trans (h5 j hj)⟩⟩
theorem uZ.low{W0 w:World}{o:xK}(h:uZ W0 o)(k:Below W0.heap.size W0 w):uZ w o:=
 {h with rl:=h.rl.low k,rm:=h.rm.low k,rd:=h.rd.low k}
theorem kS{X:List Part}{D:LD}{W0 w:World}(h:Parts (X++au D) w)(hX:dY W0∈X):Below W0.heap.size W0 w:=h.all (dY W0) (List.mem_append_left _ hX)
structure LD.Next(D D':LD):Prop where
 b:D'.b=D.b
 ps:D'.ps.length≤D.ps.length+1
 bs:D'.bs.length≤D.bs.length+1
 ls:D'.ls.length≤D.ls.length+1
 ts:D'.ts.length≤D.ts.length+1
 bt:∀s∈D'.bs,s∈D.bs∨s.length≤1000000
theorem LD.Next.refl(D:LD):D.Next D:=⟨rfl,by omega,by omega,by omega,by omega,fun _ h=>.inl h⟩
theorem LD.DW(D:LD)(zf v:Value)(n:Nat):D.Next (D.jl zf v n):=⟨rfl,by simp[LD.jl],by simp[LD.jl],by simp[LD.jl],by simp[LD.jl],fun _ h=>.inl h⟩
theorem LD.G5(D:LD)(zf v CP u:Value)(n m:Nat):D.Next ((D.ny CP u m).jl zf v n):=⟨rfl,by simp[LD.jl,LD.ny],by simp[LD.jl,LD.ny],by simp[LD.jl,LD.ny],by simp[LD.jl,LD.ny],fun _ h=>.inl h⟩
theorem Sl.ownB{w:World}{B:Nat}{E:TypeId}{size:Nat}{v:Value}{n:Nat}{xs:List Value}(h:Sl w B E size v n xs)(b:Nat)(hb:v.ownBlock=some b):B≤b∧∃c,aS w b c E:=by
 obtain⟨h1,⟨rfl,rfl⟩|⟨b',off,cap,c,rfl,hB,hb',h2⟩⟩:=h
 ·cases hb
 ·cases hb
  exact⟨hB,_,hb'⟩
theorem Parts.two{ps:List Part}{w w':World}{E F:TypeId}{s t n m:Nat}{v u:Value}{xs ys:List Value}(h:Parts ps w)(k:Keeps Non w w')(h1:Sl w' w.heap.size E s v n xs)(h2:Sl w' w.heap.size F t u m ys)(hne:E≠F):Parts (aG E s v n xs :: aG F t u m ys :: ps) w':=by
 have h3:Parts (aG F t u m ys :: ps) w':=h.add (q:=aG F t u m ys) (h2.mono (Nat.zero_le _)) k fun j hj=>(h2.ownB j hj).1
 refine⟨fun p hp=>?_,List.pairwise_cons.2 ⟨fun p hp j hj hpj=>?_,h3.sep⟩⟩
 ·rcases List.mem_cons.1 hp with rfl|hp
  ·exact h1.mono (Nat.zero_le _)
  ·exact h3.all p hp
 ·obtain⟨hB,c,hc⟩:=h1.ownB j hj
  rcases List.mem_cons.1 hp with rfl|hp
  ·obtain⟨-,c',hc'⟩:=h2.ownB j hpj
   exact hne (hc.inj hc').2
  ·have:=p.lt w (h.all p hp) j hpj
   omega
theorem Parts.put{ps:List Part}{w w':World}{E:TypeId}{s n:Nat}{v:Value}{xs:List Value}(h:Parts ps w)(k:Keeps Non w w')(h1:Sl w' w.heap.size E s v n xs):Parts (aG E s v n xs :: ps) w':=
 h.add (q:=aG E s v n xs) (h1.mono (Nat.zero_le _)) k fun j hj=>(h1.ownB j hj).1
theorem Parts.blk{ps:List Part}{w:World}(h:Parts ps w)(c:Array Value)(T:TypeId):Parts (aj w.heap.size c T :: ps) (w.alloc (.cells c T)):=
 h.add (q:=aj w.heap.size c T) (aS.new w c T) ((Keeps.refl _ _).alloc _) fun j hj=>Nat.le_of_eq (Eq.symm hj)
theorem CO.empty{w:World}{r:Nat}(h:aS w r #[.slice none 0 0] TQ):CO w (One r) r []:=
 ⟨fun k hk=>by cases hk;exact h.lt,rfl,.slice none 0 0,[],h,Sl.nil _ _ _ _,fun b hb=>(by cases hb),rfl,fun i e x he hx=>by simp at he⟩
def LD.paired(D:LD)(vss':Value)(p:Pr):LD:={D with Gf:=vss',ps:=D.ps++[p]}
theorem LD.KW(D:LD)(v:Value)(p:Pr):D.Next (D.paired v p):=⟨rfl,by simp[LD.paired],by simp[LD.paired],by simp[LD.paired],by simp[LD.paired],fun _ h=>.inl h⟩
theorem OD{X:List Part}{D:LD}{w w4:World}{p:Pr}{vss':Value}(h:Parts (bF p :: (X++au D)) w)
 (h4:Sl w4 0 ji 2 vss' (D.ps.length+1) (bZ D.ps++[pv p.x,pv p.r])) (k4:Keeps (jC D.Gf) w w4) (ho:vss'.ownBlock=D.Gf.ownBlock∨∃b,vss'.ownBlock=some b∧w.heap.size≤b):
 Parts (X++au (D.paired vss' p)) (w4.setCell ⟨D.b,0,none⟩ vss'):=by
 have h1:Parts ((bF p :: (X++[aj D.b (gu D) x9]))++
  aG ji 2 D.Gf D.ps.length (bZ D.ps) :: ([aG iw 1 D.I8 D.bs.length (bf D.bs),aG oH 1 D.zf D.ls.length (D.ls.map Prod.fst),aG uY 1 D.CP D.ts.length (D.ts.map Prod.fst)]++(D.ps.map bF++(fV 0 D.ls++fZ 0 D.ts)))) w:=by
  simpa [au,jy] using h
 have h2:=h1.mid (q:=aG ji 2 vss' (D.ps.length+1) (bZ D.ps++[pv p.x,pv p.r])) h4 k4 (fun j hj=>by
  rcases ho with ho|⟨b,hb,hge⟩
  ·exact .inl (by show D.Gf.ownBlock=some j;rw[←ho];exact hj)
  ·right
   have:some b=some j:=hb.symm.trans hj
   cases this
   exact hge)
 have h3:Parts ((bF p :: X)++aj D.b (gu D) x9 ::
  (aG ji 2 vss' (D.ps.length+1) (bZ D.ps++[pv p.x,pv p.r]) :: ([aG iw 1 D.I8 D.bs.length (bf D.bs),aG oH 1 D.zf D.ls.length (D.ls.map Prod.fst),aG uY 1 D.CP D.ts.length (D.ts.map Prod.fst)]++(D.ps.map bF++(fV 0 D.ls++fZ 0 D.ts))))) w4:=by
  simpa using h2
 have hb:aS w4 D.b (gu D) x9:=h3.Yz
 have h5:=h3.mid (q:=aj D.b (gu (D.paired vss' p)) x9) (w':=w4.setCell ⟨D.b,0,none⟩ vss') (hb.set 0 vss') ((Keeps.refl _ _).setCell _ _ (.inl rfl)) (fun j hj=>.inl hj)
 refine h5.perm ?_
 have e3:X++au (D.paired vss' p)=(X++([aj D.b (gu (D.paired vss' p)) x9,aG ji 2 vss' (D.ps.length+1) (bZ D.ps++[pv p.x,pv p.r]),aG iw 1 D.I8 D.bs.length (bf D.bs),aG oH 1 D.zf D.ls.length (D.ls.map Prod.fst),aG uY 1 D.CP D.ts.length (D.ts.map Prod.fst)]++D.ps.map bF))++(bF p :: (fV 0 D.ls++fZ 0 D.ts)):=by
  have hc:bZ (D.ps++[p])=bZ D.ps++[pv p.x,pv p.r]:=by rw[lu];rfl
  simp[au,jy,LD.paired,hc]
 rw[e3]
 refine List.perm_middle.trans ?_
 simp
def LD.told(D:LD)(v:Value)(t:List UInt8):LD:={D with I8:=v,bs:=D.bs++[t]}
theorem LD.Ru(D:LD)(v:Value)(t:List UInt8)(h:t.length≤1000000):D.Next (D.told v t):=⟨rfl,by simp[LD.told],by simp[LD.told],by simp[LD.told],by simp[LD.told],fun x hx=>by
 rcases List.mem_append.1 hx with hx|hx
 ·exact .inl hx
 ·rw[List.mem_singleton.1 hx];exact .inr h⟩
theorem Vt{X:List Part}{D:LD}{w w4:World}{t:List UInt8}{v:Value}(h:Parts (X++au D) w)(h4:Sl w4 0 iw 1 v (D.bs.length+1) (bf D.bs++[sv t]))(k4:Keeps (jC D.I8) w w4)(ho:v.ownBlock=D.I8.ownBlock∨∃b,v.ownBlock=some b∧w.heap.size≤b):
 Parts (X++au (D.told v t)) (w4.setCell ⟨D.b,1,none⟩ v):=by
 have h1:Parts ((X++[aj D.b (gu D) x9,aG ji 2 D.Gf D.ps.length (bZ D.ps)])++
  aG iw 1 D.I8 D.bs.length (bf D.bs) :: ([aG oH 1 D.zf D.ls.length (D.ls.map Prod.fst),aG uY 1 D.CP D.ts.length (D.ts.map Prod.fst)]++(D.ps.map bF++(fV 0 D.ls++fZ 0 D.ts)))) w:=by
  simpa [au,jy] using h
 have h2:=h1.mid (q:=aG iw 1 v (D.bs.length+1) (bf D.bs++[sv t])) h4 k4 (fun j hj=>by
  rcases ho with ho|⟨b,hb,hge⟩
  ·exact .inl (by show D.I8.ownBlock=some j;rw[←ho];exact hj)
  ·right
   have:some b=some j:=hb.symm.trans hj
   cases this
   exact hge)
 have h3:Parts (X++aj D.b (gu D) x9 :: (aG ji 2 D.Gf D.ps.length (bZ D.ps) ::
  (aG iw 1 v (D.bs.length+1) (bf D.bs++[sv t]) :: ([aG oH 1 D.zf D.ls.length (D.ls.map Prod.fst),aG uY 1 D.CP D.ts.length (D.ts.map Prod.fst)]++(D.ps.map bF++(fV 0 D.ls++fZ 0 D.ts)))))) w4:=by
  simpa using h2
 have hb:aS w4 D.b (gu D) x9:=h3.Yz
 have h5:=h3.mid (q:=aj D.b (gu (D.told v t)) x9) (w':=w4.setCell ⟨D.b,1,none⟩ v) (hb.set 1 v) ((Keeps.refl _ _).setCell _ _ (.inl rfl)) (fun j hj=>.inl hj)
 have hc:bf (D.bs++[t])=bf D.bs++[sv t]:=by simp[bf]
 have e3:X++au (D.told v t)=X++aj D.b (gu (D.told v t)) x9 :: (aG ji 2 D.Gf D.ps.length (bZ D.ps) ::
  (aG iw 1 v (D.bs.length+1) (bf D.bs++[sv t]) :: ([aG oH 1 D.zf D.ls.length (D.ls.map Prod.fst),aG uY 1 D.CP D.ts.length (D.ts.map Prod.fst)]++(D.ps.map bF++(fV 0 D.ls++fZ 0 D.ts))))):=by
  simp[au,jy,LD.told,hc]
 rw[e3]
 exact h5
def LD.turned(D:LD)(l1 l2:List Pr)(p:Pr):LD:={D with ps:=l1++p :: l2}
theorem DX{X:List Part}{D:LD}{w w':World}{p q:Pr}{l1 l2:List Pr}(hD:D.ps=l1++p :: l2)(h:Parts (X++au D) w)(hx:q.x=p.x)(hr:q.r=p.r)(hq:Yy w' q)(k:Keeps (bF p).S w w')(hs:∀j,(bF q).S j→(bF p).S j∨w.heap.size≤j):
 Parts (X++au (D.turned l1 l2 q)) w':=by
 have h1:Parts ((X++(jy D++l1.map bF))++bF p :: (l2.map bF++(fV 0 D.ls++fZ 0 D.ts))) w:=by
  have:X++au D=(X++(jy D++l1.map bF))++bF p :: (l2.map bF++(fV 0 D.ls++fZ 0 D.ts)):=by
   rw[au,hD];simp
  rw[←this]
  exact h
 have h2:=h1.mid (q:=bF q) hq k hs
 have hc:bZ (l1++q :: l2)=bZ D.ps:=by
  rw[hD,lu,lu]
  show _++(pv q.x :: pv q.r :: bZ l2)=_++(pv p.x :: pv p.r :: bZ l2)
  rw[hx,hr]
 have hl:(l1++q :: l2).length=D.ps.length:=by rw[hD];simp
 have ht:jy (D.turned l1 l2 q)=jy D:=by
  show [aj D.b (gu D) x9,aG ji 2 D.Gf (l1++q :: l2).length (bZ (l1++q :: l2)),_,_,_]=_
  rw[hc,hl]
  rfl
 have e:X++au (D.turned l1 l2 q)=(X++(jy D++l1.map bF))++bF q :: (l2.map bF++(fV 0 D.ls++fZ 0 D.ts)):=by
  rw[au,ht]
  simp[LD.turned]
 rw[e]
 exact h2
theorem LD.DZ{D:LD}{p q:Pr}{l1 l2:List Pr}(hD:D.ps=l1++p :: l2):(D.turned l1 l2 q).ps.length=D.ps.length:=by rw[hD];simp[LD.turned]
theorem OE{X:List Part}{D:LD}{w w1 w2:World}{p:Pr}(hp:p∈D.ps)(h:Parts (X++au D) w){R:Int×aH}{e1 e2:Ending}(h1:iL w p.F p.s R e1 w1)(h2:jF w1 p.G p.r R e2 w2):
 ∃D':LD,D'.b=D.b∧D'.ps.length=D.ps.length∧D'.bs=D.bs∧D'.ls=D.ls∧D'.ts=D.ts∧Parts (X++au D') w2:=by
 obtain⟨l1,l2,hD⟩:=List.append_of_mem hp
 have hP:=lX h hp
 obtain⟨-,⟨F',hF,hFn⟩,k1⟩:=h1
 obtain⟨-,⟨G',hG,hGn⟩,k2⟩:=h2
 have acU:=hP.box.lt
 have s1:=k1.size
 have hFG:∀k,F' k→¬p.G k:=fun k hk hg=>by
  rcases hFn k hk with hk|hk
  ·exact hP.FG k hk hg
  ·have:=hP.qt.lt k hg
   omega
 refine⟨D.turned l1 l2 ⟨p.x,p.s,p.r,F',G',R.2⟩,rfl,LD.DZ hD,rfl,rfl,rfl,DX hD h rfl rfl ⟨?_,?_,?_,?_,?_,hG⟩ ?_ ?_⟩
 ·exact(hP.box.keeps k1 hP.nF).keeps k2 hP.nG
 ·intro hk
  rcases hFn _ hk with hk|hk
  ·exact hP.nF hk
  ·simp only at hk;omega
 ·intro hk
  rcases hGn _ hk with hk|hk
  ·exact hP.nG hk
  ·simp only at hk;omega
 ·intro k hk hg
  have hlt:=hF.lt k hk
  rcases hGn k hg with hg|hg
  ·exact hFG k hk hg
  ·omega
 ·exact hF.keeps k2 hFG
 ·refine(k1.mono fun k _ hk=>.inr (.inl hk)).trans k2 fun k hk=>.inl (.inr (.inr hk))
 ·intro j hj
  rcases hj with rfl|hj|hj
  ·exact .inl (.inl rfl)
  ·rcases hFn j hj with hj|hj
   ·exact .inl (.inr (.inl hj))
   ·exact .inr hj.1
  ·rcases hGn j hj with hj|hj
   ·exact .inl (.inr (.inr hj))
   ·exact .inr (by omega)
end Go.Proofs.YtdkogijdfgfpeaaGreatDoor

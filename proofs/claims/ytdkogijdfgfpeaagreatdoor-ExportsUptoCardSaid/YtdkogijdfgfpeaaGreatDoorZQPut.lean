/- The document's store: entries compared, one more put in. -/
import Derived.Test.YtdkogijdfgfpeaaGreatDoorZMap
import Derived.Test.YtdkogijdfgfpeaaGreatDoorZStr
import Derived.Test.YtdkogijdfgfpeaaGreatDoorZPackw
import Derived.Test.YtdkogijdfgfpeaaGreatDoorZGet
set_option linter.unusedVariables false
namespace Go.Proofs.YtdkogijdfgfpeaaGreatDoor
open Go Go.RowKit
set_option maxHeartbeats 3200000
set_option maxRecDepth 100000
theorem Jf:(Tryz.prog.info? 165).map (fun i=>(i.zero,i.size,i.bytes))=some (some (.agg #[.string ⟨#[]⟩,.slice none 0 0,.slice none 0 0]),3,64):=by kernel_rfl
def mO(L:aH)(p:List UInt8):Nat:=(L.takeWhile fun x=>Op.bytesLess x.path p).length
theorem Ql(L:aH)(e:dI):ou L e=L.take (mO L e.path)++e :: L.drop (mO L e.path):=by
 unfold ou mO
 have h:=List.takeWhile_append_dropWhile (p:=fun x:dI=>Op.bytesLess x.path e.path) (l:=L)
 generalize L.takeWhile (fun x=>Op.bytesLess x.path e.path)=a at *
 generalize L.dropWhile (fun x=>Op.bytesLess x.path e.path)=b at *
 subst h
 simp
theorem sW:∀(T:List (Value×Value×Value)),(∀x∈T,x.1.oneCell'=true∧x.2.1.oneCell'=true∧x.2.2.oneCell'=true)→∀u∈trip T,u.oneCell'=true:=fun T h u hu=>by
 unfold trip at hu
 obtain⟨x,hx,hux⟩:=List.mem_flatMap.1 hu
 obtain⟨h1,h2,h3⟩:=h x hx
 simp only[List.mem_cons,List.not_mem_nil,or_false] at hux
 rcases hux with rfl|rfl|rfl
 ·exact h1
 ·exact h2
 ·exact h3
theorem Qm{L:aH}{p:List UInt8}{k:Nat}(hk:k≤L.length)(h:∀x∈L.take k,Op.bytesLess x.path p=true)(h2:∀e,L[k]? =some e→Op.bytesLess e.path p=false):mO L p=k:=by
 unfold mO
 conv=>lhs;rw[←List.take_append_drop k L]
 rw[List.takeWhile_append_of_pos (fun x hx=>h x hx)]
 have hd:(L.drop k).takeWhile (fun x=>Op.bytesLess x.path p)=[]:=by
  cases hdk:L.drop k with
  |nil=>rfl
  |cons e r=>
   have he:L[k]? =some e:=by
    have:=congrArg (fun l=>l[0]?) hdk
    simpa [List.getElem?_drop] using this
   rw[List.takeWhile_cons_of_neg (by simp[h2 e he])]
 rw[hd,List.append_nil,List.length_take]
 omega
theorem Rd.Qn{w:World}{size:Nat}{a:Option Addr}{n cap m:Nat}{xs:List Value}(h:Rd w size (.slice a n cap) n xs)(hm:m≤n):Rd w size (.slice a m cap) m (xs.take (m*size)):=by
 have hle:m*size≤n*size:=Nat.mul_le_mul_right _ hm
 obtain⟨h1,⟨a,cap,h2,h3,h4⟩|⟨b,off,cap,h2,h3,h4,h5,h6⟩⟩:=h
 ·cases h2
  have hm0:m=0:=by omega
  subst hm0
  exact⟨by simp,.inl ⟨_,_,rfl,rfl,h4⟩⟩
 ·cases h2
  refine⟨by rw[List.length_take];omega,.inr ⟨_,_,_,rfl,by omega,h4,h5,fun j hj=>?_⟩⟩
  rw[h6 j (by omega),List.getElem?_take,if_pos hj]
theorem Rd.ZF{w:World}{size b off n cap m:Nat}{xs:List Value}(h:Rd w size (.slice (some ⟨b,off,none⟩) n cap) n xs)(hm:m≤n):Rd w size (.slice (some ⟨b,off+m*size,none⟩) (n-m) (cap-m)) (n-m) (xs.drop (m*size)):=by
 have hle:m*size≤n*size:=Nat.mul_le_mul_right _ hm
 obtain⟨h1,⟨a,c,h2,h3,h4⟩|⟨b',off',c,h2,h3,h4,h5,h6⟩⟩:=h
 ·cases h2
  have hm0:m=0:=by omega
  subst hm0
  exact⟨by simp at h1 ⊢;exact h1,.inl ⟨some ⟨b,off,none⟩,cap,by simp,rfl,h4⟩⟩
 ·cases h2
  refine⟨by rw[List.length_drop,h1,Nat.sub_mul],.inr ⟨_,_,_,rfl,by omega,by omega,h5,fun j hj=>?_⟩⟩
  rw[Nat.sub_mul] at hj
  rw[Nat.add_assoc,h6 _ (by omega),List.getElem?_drop]
theorem kE.one{w:World}{G:Nat→Prop}{L:aH}{v:Value}{T:List (Value×Value×Value)}(h:kE w G L v T):∀x∈T,x.1.oneCell'=true∧x.2.1.oneCell'=true∧x.2.2.oneCell'=true:=fun x hx=>by
 obtain⟨i,hi,rfl⟩:=List.getElem_of_mem hx
 have hil:i<L.length:=by rw[←h.len];exact hi
 have hE:=h.ents i _ _ (List.getElem?_eq_getElem hil) (List.getElem?_eq_getElem hi)
 obtain⟨a1,c1,e1,-,-⟩:=hE.tree.shape
 obtain⟨a2,c2,e2,-,-⟩:=hE.refs.shape
 rw[hE.path,e1,e2]
 exact⟨rfl,rfl,rfl⟩
theorem KN{G:Nat→Prop}{L:aH}{v:Value}{T:List (Value×Value×Value)}(w:World)(h:kE w G L v T)(Jg:L.length≤10)(p:List UInt8)(ta ra:Option Addr)(tn tc rn rc:Nat):
 Calls Tryz.prog 100 #[v,.agg #[sv p,.slice ta tn tc,.slice ra rn rc]] w fun e w'=>∃v',e=.returned v'∧Sl w' w.heap.size 165 3 v' (T.length+1) (trip (T.take (mO L p)++(sv p,.slice ta tn tc,.slice ra rn rc) :: T.drop (mO L p)))∧Keeps Non w w':=by
 obtain⟨va,vc,rfl,hc1,hc2⟩:=h.rd.shape
 unfold maxLen at hc2
 have HQ:=Lib.hid h
 have yM:=Lib.hid h.len
 have aaB:T.length≤10:=by have:=h.len;omega
 clear h
 have hk0:Keeps Non w (w.alloc (.cells #[.string ⟨p.toArray⟩,.slice ta tn tc,.slice ra rn rc] 165)):=(Keeps.refl _ _).alloc _
 have hb0:=aS.new w #[.string ⟨p.toArray⟩,.slice ta tn tc,.slice ra rn rc] 165
 obtain⟨W,hW⟩:∃W,W=w.alloc (.cells #[.string ⟨p.toArray⟩,.slice ta tn tc,.slice ra rn rc] 165):=⟨_,rfl⟩
 obtain⟨eb,heb⟩:∃eb,eb=w.heap.size:=⟨_,rfl⟩
 rw[←hW] at hk0 hb0
 rw[←heb] at hb0
 have vJ:=Lib.hid hk0
 have HB0:=Lib.hid hb0
 have HQW:=Lib.hid (HQ.out.non hk0)
 unfold sv
 go_enter Tryz.func100,Tryz.ntmps100
 go_upto_region 1 with(fail)
 rw[←hW,←heb]
 clear hW heb hk0 hb0
 go_wp2_with fail
 go_loopg [5] T.length (fun gk iv wr=>∃k:Nat,gk=T.length-k∧k≤T.length∧iv=.int .i64 k∧Hid (Keeps Non W wr)∧Hid (∀x∈L.take k,Op.bytesLess x.path p=true))
 case atStart=>exact⟨0,rfl,Nat.zero_le _,rfl,Keeps.refl _ _,by show ∀x∈_,_;simp⟩
 case round=>
  obtain⟨k,rfl,hk,rfl,HD,HA⟩:=hrel
  by_cases hlt:k<T.length
  ·have d1:decide ((k:Int)<(T.length:Int))=true:=decide_eq_true (by omega)
   have d1':decide (k<T.length)=true:=decide_eq_true hlt
   have hQ:=HQW.out.non HD.out
   have hB:=HB0.out.keeps HD.out fun h=>h
   obtain⟨b,off,cp,hsh,-,-,-,hbl,hcc,-⟩:=hQ.rd.pos (by omega)
   cases hsh
   obtain⟨x,hx⟩:∃x,T[k]? =some x:=⟨_,List.getElem?_eq_getElem hlt⟩
   obtain⟨e,he⟩:∃e,L[k]? =some e:=⟨_,List.getElem?_eq_getElem (by rw[←yM.out];exact hlt)⟩
   have c0:=(hcc (k*3) (by omega)).trans (o9 T k x hx).1
   rw[(hQ.ents k e x he hx).path] at c0
   have b0:=hB.cell 0
   simp only[List.getElem?_toArray,List.getElem?_cons_zero] at b0
   unfold sv at c0
   have HE:=Lib.hid he
   clear hcc hQ hB hx he
   have q1:(0:Int)≤(k:Int):=by omega
   have q2:(k:Int)<(T.length:Int):=by omega
   cases hl:Op.bytesLess e.path p with
   |true=>
    have HLL:=Lib.hid hl
    go_upto_region 2 with(fail)
    go_quiet (fail)
    go_wp2_with fail
    go_roundg (T.length-(k+1))
    case measure=>omega
    case rel=>
     refine⟨k+1,rfl,by omega,by go_num,HD.out.drewN _,?_⟩
     show ∀x∈_,_
     intro x hx
     rw[List.take_add_one,HE.out,List.mem_append] at hx
     rcases hx with hx|hx
     ·exact HA.out x hx
     ·simp only[Option.toList_some,List.mem_singleton] at hx
      rw[hx]
      exact HLL.out
   |false=>
    have hstop:∀e',L[k]? =some e'→Op.bytesLess e'.path p=false:=fun e' he'=>by
     rw[HE.out,Option.some.injEq] at he'
     rw[←he']
     exact hl
    go_upto_region 2 with(fail)
    go_quiet (fail)
    have HKK:=Lib.hid (Qm (by rw[←yM.out];exact hk) HA.out hstop)
    clear hstop
    go_upto_region 4 with(fail)
    have yN:Hid (Keeps Non W (wr.drewN nq)):=HD.out.drewN _
    generalize wr.drewN nq=wA at *
    have f4:¬vc=k:=by omega
    have f5:(T.length:Int)≤(vc:Int):=by omega
    have f2:(k:Int)≤(vc:Int):=by omega
    obtain⟨i0,hi,hi0,hi1,hi2⟩:=info_parts Jf
    have f1:(0:Int)≤(k:Int):=by omega
    have f3:(k:Int)≤(T.length:Int):=by omega
    have hsw:=vJ.out.size
    have hsA:=yN.out.size
    have Jh:=Lib.hid HQ.out.one
    go_wp2_with (at_builtin;refine ay rfl _ _ 128 128 rfl 165 i0 _ 3 64 Tryz.underlying128 hi hi0 hi1 hi2 rfl W.heap.size _ 0 [] rfl _ rfl k (trip (T.take k)) ?agh (Sl.nil _ _ _ _) ?c201 ?agi ?agj ?_)
    try (case agh=>omega)
    case c201=>
     have h1:=(HQW.out.non yN.out).rd.Qn (m:=k) hk
     rw[trip_take] at h1
     exact Src.yY Tryz.underlying128 h1 (sW _ fun x hx=>Jh.out x (List.mem_of_mem_take hx))
    case agi=>unfold maxLen;omega
    case agj=>omega
    intro ao cc w1 hs1 hk1 lW hb1
    have oI:=Lib.hid hs1
    have iy:Hid (Keeps Non W w1):=yN.out.trans lW fun j hj=>by cases hj
    have hb:=HB0.out.keeps iy.out fun h=>h
    have e0:=hb.cell 0
    have e1:=hb.cell 1
    have e2:=hb.cell 2
    simp only[List.getElem?_toArray,List.getElem?_cons_zero,List.getElem?_cons_succ] at e0 e1 e2
    clear hs1 hk1 lW hb1 hb
    have hs1':=oI.out
    have hsz1:=iy.out.size
    go_wp2_with (at_builtin;refine ay rfl _ _ 128 128 rfl 165 i0 _ 3 64 Tryz.underlying128 hi hi0 hi1 hi2 rfl W.heap.size _ _ _ rfl _ rfl 1 [.string ⟨p.toArray⟩,.slice ta tn tc,.slice ra rn rc] ?agk (hs1'.alloc _) ?agl ?agm ?agn ?_)
    try (case agk=>simp;omega)
    case agl=>exact Src.kP Tryz.underlying128 (Sl.dM w1 0 (Nat.zero_le _) 165 3 1 [.string ⟨p.toArray⟩,.slice ta tn tc,.slice ra rn rc] rfl (by simp[maxLen])) (by intro u hu;simp only[List.mem_cons,List.not_mem_nil,or_false] at hu;rcases hu with rfl|rfl|rfl <;> rfl)
    case agm=>unfold maxLen;omega
    case agn=>omega
    intro bo bc w2 hs2 hk2' oN hb2
    have HS2:=Lib.hid hs2
    have iP:Hid (Keeps Non W w2):=(iy.out.alloc _).trans oN fun j hj=>.inr (hs1'.own j hj).1
    clear hs2 hk2' oN hb2 hs1' e0 e1 e2
    have hs2':=HS2.out
    have hsz2:=iP.out.size
    go_wp2_with (at_builtin;refine ay rfl _ _ 128 128 rfl 165 i0 _ 3 64 Tryz.underlying128 hi hi0 hi1 hi2 rfl W.heap.size _ _ _ rfl _ rfl (T.length-k) (trip (T.drop k)) ?agp hs2' ?c203 ?agq ?agr ?_)
    try (case agp=>omega)
    case c203=>
     have h1:=(HQW.out.non iP.out).rd.ZF (m:=k) hk
     rw[GL] at h1
     exact Src.yY Tryz.underlying128 h1 (sW _ fun x hx=>Jh.out x (List.mem_of_mem_drop hx))
    case agq=>unfold maxLen;omega
    case agr=>omega
    intro do' dc w3 hs3 hk3 jY hb3
    have kL:Hid (Keeps Non w w3):=vJ.out.trans (iP.out.trans jY fun j hj=>.inr (hs2'.own j hj).1) fun _ h=>h.elim
    have CJ:=Lib.hid (hs3.mono hsw)
    clear hs3 hk3 jY hb3 hs2'
    go_wp2_with fail
    go_ret
    have hlen:k+1+(T.length-k)=T.length+1:=by omega
    refine⟨.slice do' (_+1+(T.length-_)) dc,rfl,?_,kL.out⟩
    have h1:=CJ.out
    rw[HKK.out,vP,show trip ((.string ⟨p.toArray⟩,.slice ta tn tc,.slice ra rn rc) :: T.drop k)=.string ⟨p.toArray⟩ :: .slice ta tn tc :: .slice ra rn rc :: trip (T.drop k) from rfl]
    try simp only[Nat.zero_add,List.nil_append,List.append_assoc,List.cons_append] at h1
    rw[hlen] at h1 ⊢
    exact h1
  ·have d1:decide ((k:Int)<(T.length:Int))=false:=decide_eq_false (by omega)
   have hk2:T.length=k:=by omega
   have hstop:∀e',L[k]? =some e'→Op.bytesLess e'.path p=false:=fun e' he'=>by
    rw[List.getElem?_eq_none (by rw[←yM.out];omega)] at he'
    cases he'
   have d1':decide (k<T.length)=false:=decide_eq_false hlt
   go_upto_region 2 with(fail)
   go_quiet (fail)
   have HKK:=Lib.hid (Qm (by rw[←yM.out];exact hk) HA.out hstop)
   clear hstop
   go_upto_region 4 with(fail)
   have yN:Hid (Keeps Non W (wr.drewN nq)):=HD.out.drewN _
   generalize wr.drewN nq=wA at *
   have HE2:Hid (T.length=k):=hk2
   clear hk2
   obtain⟨h1s,⟨h2s,h3s⟩|⟨b,off,cap,c,h2s,-,-,h3s,-⟩⟩:=HQ.out.sl
   ·simp only[Value.slice.injEq] at h2s
    obtain⟨rfl,-,rfl⟩:=h2s
    have f2:((0:Nat):Int)≤0:=by omega
    have hk0:k=0:=by have:=HE2.out;omega
    subst hk0
    obtain⟨i0,hi,hi0,hi1,hi2⟩:=info_parts Jf
    have f1:(0:Int)≤(0:Int):=by omega
    have f3:(0:Int)≤(T.length:Int):=by omega
    have hsw:=vJ.out.size
    have hsA:=yN.out.size
    have Jh:=Lib.hid HQ.out.one
    go_wp2_with (at_builtin;refine ay rfl _ _ 128 128 rfl 165 i0 _ 3 64 Tryz.underlying128 hi hi0 hi1 hi2 rfl W.heap.size _ 0 [] rfl _ rfl 0 (trip (T.take 0)) ?ags (Sl.nil _ _ _ _) ?agt ?agu ?agv ?_)
    try (case ags=>omega)
    case agt=>
     have h1:=(HQW.out.non yN.out).rd.Qn (m:=0) hk
     rw[trip_take] at h1
     exact Src.yY Tryz.underlying128 h1 (sW _ fun x hx=>Jh.out x (List.mem_of_mem_take hx))
    case agu=>unfold maxLen;omega
    case agv=>omega
    intro ao cc w1 hs1 hk1 lW hb1
    have oI:=Lib.hid hs1
    have iy:Hid (Keeps Non W w1):=yN.out.trans lW fun j hj=>by cases hj
    have hb:=HB0.out.keeps iy.out fun h=>h
    have e0:=hb.cell 0
    have e1:=hb.cell 1
    have e2:=hb.cell 2
    simp only[List.getElem?_toArray,List.getElem?_cons_zero,List.getElem?_cons_succ] at e0 e1 e2
    clear hs1 hk1 lW hb1 hb
    have hs1':=oI.out
    have hsz1:=iy.out.size
    go_wp2_with (at_builtin;refine ay rfl _ _ 128 128 rfl 165 i0 _ 3 64 Tryz.underlying128 hi hi0 hi1 hi2 rfl W.heap.size _ _ _ rfl _ rfl 1 [.string ⟨p.toArray⟩,.slice ta tn tc,.slice ra rn rc] ?c105 (hs1'.alloc _) ?agw ?agx ?agy ?_)
    try (case c105=>simp;omega)
    case agw=>exact Src.kP Tryz.underlying128 (Sl.dM w1 0 (Nat.zero_le _) 165 3 1 [.string ⟨p.toArray⟩,.slice ta tn tc,.slice ra rn rc] rfl (by simp[maxLen])) (by intro u hu;simp only[List.mem_cons,List.not_mem_nil,or_false] at hu;rcases hu with rfl|rfl|rfl <;> rfl)
    case agx=>unfold maxLen;omega
    case agy=>omega
    intro bo bc w2 hs2 hk2' oN hb2
    have HS2:=Lib.hid hs2
    have iP:Hid (Keeps Non W w2):=(iy.out.alloc _).trans oN fun j hj=>.inr (hs1'.own j hj).1
    clear hs2 hk2' oN hb2 hs1' e0 e1 e2
    have hs2':=HS2.out
    have hsz2:=iP.out.size
    go_wp2_with (at_builtin;refine ay rfl _ _ 128 128 rfl 165 i0 _ 3 64 Tryz.underlying128 hi hi0 hi1 hi2 rfl W.heap.size _ _ _ rfl _ rfl (T.length-0) (trip (T.drop 0)) ?agz hs2' ?c206 ?agA ?agB ?_)
    try (case agz=>omega)
    case c206=>
     rw[HE2.out]
     have hd:T=[]:=List.eq_nil_of_length_eq_zero HE2.out
     subst hd
     exact Src.yY Tryz.underlying128 ⟨rfl,.inl ⟨_,_,rfl,rfl,by simp[maxLen]⟩⟩ (by intro u hu;cases hu)
    case agA=>unfold maxLen;omega
    case agB=>omega
    intro do' dc w3 hs3 hk3 jY hb3
    have kL:Hid (Keeps Non w w3):=vJ.out.trans (iP.out.trans jY fun j hj=>.inr (hs2'.own j hj).1) fun _ h=>h.elim
    have CJ:=Lib.hid (hs3.mono hsw)
    clear hs3 hk3 jY hb3 hs2'
    go_wp2_with fail
    go_ret
    have hT:T=[]:=List.eq_nil_of_length_eq_zero HE2.out
    subst hT
    refine⟨.slice do' 1 dc,rfl,?_,kL.out⟩
    rw[HKK.out]
    have h1:=CJ.out
    simpa [trip] using h1
   ·cases h2s
    have f2:(k:Int)≤(vc:Int):=by omega
    have f5:(T.length:Int)≤(vc:Int):=by omega
    have f6:=HE2.out
    by_cases f4:vc=k
    ·have HF6:=Lib.hid f6
     obtain rfl:k=vc:=f4.symm
     clear f6
     obtain⟨i0,hi,hi0,hi1,hi2⟩:=info_parts Jf
     have f1:(0:Int)≤(k:Int):=by omega
     have f3:(k:Int)≤(T.length:Int):=by omega
     have hsw:=vJ.out.size
     have hsA:=yN.out.size
     have Jh:=Lib.hid HQ.out.one
     go_wp2_with (at_builtin;refine ay rfl _ _ 128 128 rfl 165 i0 _ 3 64 Tryz.underlying128 hi hi0 hi1 hi2 rfl W.heap.size _ 0 [] rfl _ rfl k (trip (T.take k)) ?c107 (Sl.nil _ _ _ _) ?agC ?agD ?agE ?_)
     try (case c107=>omega)
     case agC=>
      have h1:=(HQW.out.non yN.out).rd.Qn (m:=k) hk
      rw[trip_take] at h1
      exact Src.yY Tryz.underlying128 h1 (sW _ fun x hx=>Jh.out x (List.mem_of_mem_take hx))
     case agD=>unfold maxLen;omega
     case agE=>omega
     intro ao cc w1 hs1 hk1 lW hb1
     have oI:=Lib.hid hs1
     have iy:Hid (Keeps Non W w1):=yN.out.trans lW fun j hj=>by cases hj
     have hb:=HB0.out.keeps iy.out fun h=>h
     have e0:=hb.cell 0
     have e1:=hb.cell 1
     have e2:=hb.cell 2
     simp only[List.getElem?_toArray,List.getElem?_cons_zero,List.getElem?_cons_succ] at e0 e1 e2
     clear hs1 hk1 lW hb1 hb
     have hs1':=oI.out
     have hsz1:=iy.out.size
     go_wp2_with (at_builtin;refine ay rfl _ _ 128 128 rfl 165 i0 _ 3 64 Tryz.underlying128 hi hi0 hi1 hi2 rfl W.heap.size _ _ _ rfl _ rfl 1 [.string ⟨p.toArray⟩,.slice ta tn tc,.slice ra rn rc] ?agF (hs1'.alloc _) ?c208 ?agG ?agH ?_)
     try (case agF=>simp;omega)
     case c208=>exact Src.kP Tryz.underlying128 (Sl.dM w1 0 (Nat.zero_le _) 165 3 1 [.string ⟨p.toArray⟩,.slice ta tn tc,.slice ra rn rc] rfl (by simp[maxLen])) (by intro u hu;simp only[List.mem_cons,List.not_mem_nil,or_false] at hu;rcases hu with rfl|rfl|rfl <;> rfl)
     case agG=>unfold maxLen;omega
     case agH=>omega
     intro bo bc w2 hs2 hk2' oN hb2
     have HS2:=Lib.hid hs2
     have iP:Hid (Keeps Non W w2):=(iy.out.alloc _).trans oN fun j hj=>.inr (hs1'.own j hj).1
     clear hs2 hk2' oN hb2 hs1' e0 e1 e2
     have hs2':=HS2.out
     have hsz2:=iP.out.size
     go_wp2_with (at_builtin;refine ay rfl _ _ 128 128 rfl 165 i0 _ 3 64 Tryz.underlying128 hi hi0 hi1 hi2 rfl W.heap.size _ _ _ rfl _ rfl (T.length-k) (trip (T.drop k)) ?c109 hs2' ?agI ?agJ ?agK ?_)
     try (case c109=>omega)
     case agI=>
      have hd:T.drop k=[]:=List.drop_eq_nil_of_le (by omega)
      have hz:T.length-k=0:=by omega
      rw[hd,hz]
      exact Src.yY Tryz.underlying128 ⟨rfl,.inl ⟨_,_,rfl,rfl,by unfold maxLen;omega⟩⟩ (by intro u hu;cases hu)
     case agJ=>unfold maxLen;omega
     case agK=>omega
     intro do' dc w3 hs3 hk3 jY hb3
     have kL:Hid (Keeps Non w w3):=vJ.out.trans (iP.out.trans jY fun j hj=>.inr (hs2'.own j hj).1) fun _ h=>h.elim
     have CJ:=Lib.hid (hs3.mono hsw)
     clear hs3 hk3 jY hb3 hs2'
     go_wp2_with fail
     go_ret
     have hlen:k+1+(T.length-k)=T.length+1:=by omega
     refine⟨.slice do' (k+1) dc,rfl,?_,kL.out⟩
     have h1:=CJ.out
     rw[HKK.out,vP,show trip ((.string ⟨p.toArray⟩,.slice ta tn tc,.slice ra rn rc) :: T.drop k)=.string ⟨p.toArray⟩ :: .slice ta tn tc :: .slice ra rn rc :: trip (T.drop k) from rfl]
     try simp only[Nat.zero_add,List.nil_append,List.append_assoc,List.cons_append] at h1
     rw[HE2.out]
     exact h1
    ·have HF6:=Lib.hid f6
     clear f6
     obtain⟨i0,hi,hi0,hi1,hi2⟩:=info_parts Jf
     have f1:(0:Int)≤(k:Int):=by omega
     have f3:(k:Int)≤(T.length:Int):=by omega
     have hsw:=vJ.out.size
     have hsA:=yN.out.size
     have Jh:=Lib.hid HQ.out.one
     go_wp2_with (at_builtin;refine ay rfl _ _ 128 128 rfl 165 i0 _ 3 64 Tryz.underlying128 hi hi0 hi1 hi2 rfl W.heap.size _ 0 [] rfl _ rfl k (trip (T.take k)) ?agL (Sl.nil _ _ _ _) ?c210 ?agM ?agN ?_)
     try (case agL=>omega)
     case c210=>
      have h1:=(HQW.out.non yN.out).rd.Qn (m:=k) hk
      rw[trip_take] at h1
      exact Src.yY Tryz.underlying128 h1 (sW _ fun x hx=>Jh.out x (List.mem_of_mem_take hx))
     case agM=>unfold maxLen;omega
     case agN=>omega
     intro ao cc w1 hs1 hk1 lW hb1
     have oI:=Lib.hid hs1
     have iy:Hid (Keeps Non W w1):=yN.out.trans lW fun j hj=>by cases hj
     have hb:=HB0.out.keeps iy.out fun h=>h
     have e0:=hb.cell 0
     have e1:=hb.cell 1
     have e2:=hb.cell 2
     simp only[List.getElem?_toArray,List.getElem?_cons_zero,List.getElem?_cons_succ] at e0 e1 e2
     clear hs1 hk1 lW hb1 hb
     have hs1':=oI.out
     have hsz1:=iy.out.size
     go_wp2_with (at_builtin;refine ay rfl _ _ 128 128 rfl 165 i0 _ 3 64 Tryz.underlying128 hi hi0 hi1 hi2 rfl W.heap.size _ _ _ rfl _ rfl 1 [.string ⟨p.toArray⟩,.slice ta tn tc,.slice ra rn rc] ?agO (hs1'.alloc _) ?agP ?agQ ?agR ?_)
     try (case agO=>simp;omega)
     case agP=>exact Src.kP Tryz.underlying128 (Sl.dM w1 0 (Nat.zero_le _) 165 3 1 [.string ⟨p.toArray⟩,.slice ta tn tc,.slice ra rn rc] rfl (by simp[maxLen])) (by intro u hu;simp only[List.mem_cons,List.not_mem_nil,or_false] at hu;rcases hu with rfl|rfl|rfl <;> rfl)
     case agQ=>unfold maxLen;omega
     case agR=>omega
     intro bo bc w2 hs2 hk2' oN hb2
     have HS2:=Lib.hid hs2
     have iP:Hid (Keeps Non W w2):=(iy.out.alloc _).trans oN fun j hj=>.inr (hs1'.own j hj).1
     clear hs2 hk2' oN hb2 hs1' e0 e1 e2
     have hs2':=HS2.out
     have hsz2:=iP.out.size
     go_wp2_with (at_builtin;refine ay rfl _ _ 128 128 rfl 165 i0 _ 3 64 Tryz.underlying128 hi hi0 hi1 hi2 rfl W.heap.size _ _ _ rfl _ rfl (T.length-k) (trip (T.drop k)) ?agS hs2' ?c212 ?agT ?agU ?_)
     try (case agS=>omega)
     case c212=>
      have h1:=(HQW.out.non iP.out).rd.ZF (m:=k) hk
      rw[GL] at h1
      exact Src.yY Tryz.underlying128 h1 (sW _ fun x hx=>Jh.out x (List.mem_of_mem_drop hx))
     case agT=>unfold maxLen;omega
     case agU=>omega
     intro do' dc w3 hs3 hk3 jY hb3
     have kL:Hid (Keeps Non w w3):=vJ.out.trans (iP.out.trans jY fun j hj=>.inr (hs2'.own j hj).1) fun _ h=>h.elim
     have CJ:=Lib.hid (hs3.mono hsw)
     clear hs3 hk3 jY hb3 hs2'
     go_wp2_with fail
     go_ret
     have hlen:k+1+(T.length-k)=T.length+1:=by omega
     refine⟨.slice do' (_+1+(T.length-_)) dc,rfl,?_,kL.out⟩
     have h1:=CJ.out
     rw[HKK.out,vP,show trip ((.string ⟨p.toArray⟩,.slice ta tn tc,.slice ra rn rc) :: T.drop k)=.string ⟨p.toArray⟩ :: .slice ta tn tc :: .slice ra rn rc :: trip (T.drop k) from rfl]
     try simp only[Nat.zero_add,List.nil_append,List.append_assoc,List.cons_append] at h1
     rw[hlen] at h1 ⊢
     exact h1
theorem GY(w:World)(a b:dI)(pa pb:ByteArray)(vta vra vtb vrb:Value)(ha:Rd w 3 vta a.tree.length (ak a.tree))(ha2:Rd w 1 vra a.refs.length (bf a.refs))(hb:Rd w 3 vtb b.tree.length (ak b.tree))(hb2:Rd w 1 vrb b.refs.length (bf b.refs))
 (wa:bH a.tree= -1) (wb:bH b.tree= -1) (fa:mM a) (fb:mM b):
 Calls Tryz.prog 99 #[.agg #[.string pa,vta,vra],.agg #[.string pb,vtb,vrb]] w fun e w'=>e=.returned (.bool (jM a b))∧Keeps Non w w':=by
 obtain⟨a1,c1,rfl,-,-⟩:=ha.shape
 obtain⟨a2,c2,rfl,-,-⟩:=ha2.shape
 obtain⟨a3,c3,rfl,-,-⟩:=hb.shape
 obtain⟨a4,c4,rfl,-,-⟩:=hb2.shape
 have hk0:Keeps Non w ((w.alloc (.cells #[.string pa,.slice a1 a.tree.length c1,.slice a2 a.refs.length c2] 165)).alloc (.cells #[.string pb,.slice a3 b.tree.length c3,.slice a4 b.refs.length c4] 165)):=((Keeps.refl _ _).alloc _).alloc _
 have hba:aS ((w.alloc (.cells #[.string pa,.slice a1 a.tree.length c1,.slice a2 a.refs.length c2] 165)).alloc (.cells #[.string pb,.slice a3 b.tree.length c3,.slice a4 b.refs.length c4] 165)) w.heap.size #[.string pa,.slice a1 a.tree.length c1,.slice a2 a.refs.length c2] 165:=(aS.new _ _ _).alloc _
 have hbb:aS ((w.alloc (.cells #[.string pa,.slice a1 a.tree.length c1,.slice a2 a.refs.length c2] 165)).alloc (.cells #[.string pb,.slice a3 b.tree.length c3,.slice a4 b.refs.length c4] 165)) (w.heap.size+1) #[.string pb,.slice a3 b.tree.length c3,.slice a4 b.refs.length c4] 165:=by
  have h1:=aS.new (w.alloc (.cells #[.string pa,.slice a1 a.tree.length c1,.slice a2 a.refs.length c2] 165)) #[.string pb,.slice a3 b.tree.length c3,.slice a4 b.refs.length c4] 165
  simpa using h1
 obtain⟨W,hW⟩:∃W,W=(w.alloc (.cells #[.string pa,.slice a1 a.tree.length c1,.slice a2 a.refs.length c2] 165)).alloc (.cells #[.string pb,.slice a3 b.tree.length c3,.slice a4 b.refs.length c4] 165):=⟨_,rfl⟩
 obtain⟨xa,hxa⟩:∃xa,xa=w.heap.size:=⟨_,rfl⟩
 obtain⟨xb,hxb⟩:∃xb,xb=w.heap.size+1:=⟨_,rfl⟩
 rw[←hW] at hk0 hba hbb
 rw[←hxb] at hbb
 rw[←hxa] at hba
 have vJ:=Lib.hid hk0
 have HBA:=Lib.hid hba
 have HBB:=Lib.hid hbb
 have fJ:Hid (∀wx,Keeps Non W wx→Calls Tryz.prog 105 #[.slice a1 a.tree.length c1] wx fun ed w'=>ed=.returned (.string ⟨(aJ a.tree).toArray⟩)∧Keeps Non wx w'):=fun wx hk=>sO _ a.tree wx ((ha.non hk0).non hk) fa.nodes wa fa.pack
 have BZ:Hid (∀wx,Keeps Non W wx→Calls Tryz.prog 105 #[.slice a3 b.tree.length c3] wx fun ed w'=>ed=.returned (.string ⟨(aJ b.tree).toArray⟩)∧Keeps Non wx w'):=fun wx hk=>sO _ b.tree wx ((hb.non hk0).non hk) fb.nodes wb fb.pack
 have HTX:Hid (∀wx,Keeps Non W wx→Calls Tryz.prog 125 #[.slice a2 a.refs.length c2,.slice a4 b.refs.length c4] wx fun ed w'=>ed=.returned (.bool (a.refs==b.refs))∧Keeps Non wx w'):=fun wx hk=>(Q8 a.refs b.refs _ _ wx ((ha2.non hk0).non hk) ((hb2.non hk0).non hk)).mono (by rintro ed w' ⟨rfl,n,rfl⟩;exact⟨rfl,(Keeps.refl _ _).drewN _⟩)
 clear ha ha2 hb hb2 wa wb fa fb
 unfold jM
 generalize aJ a.tree=x at *
 generalize aJ b.tree=y at *
 go_enter Tryz.func99,Tryz.ntmps99
 go_upto_region 1 with(fail)
 rw[←hW,←hxb,←hxa]
 clear hW hxa hxb hk0 hba hbb
 have hc:Keeps Non W W:=Keeps.refl _ _
 have q1:=HBA.out.cell 1
 have q2:=HBA.out.cell 2
 have r1:=HBB.out.cell 1
 have r2:=HBB.out.cell 2
 simp only[List.getElem?_toArray,List.getElem?_cons_zero,List.getElem?_cons_succ] at q1 q2 r1 r2
 by_cases hxy:x=y
 ·have hd:(x==y)=true:=by rw[hxy];exact beq_self_eq_true _
  clear hxy
  go_region_with (first
   |(go_at_call 105;(first|(refine(fJ.out _ (by first|exact hc|exact hc.drew)).mono ?_)|(refine(BZ.out _ (by first|exact hc|exact hc.drew)).mono ?_));rintro ed w' ⟨rfl,hk⟩;replace hc:=Keeps.tn hc (by first|exact hk|exact hk.un);clear hk;have q1:=(HBA.out.keeps hc (fun h=>h)).cell 1;have q2:=(HBA.out.keeps hc (fun h=>h)).cell 2;have r1:=(HBB.out.keeps hc (fun h=>h)).cell 1;have r2:=(HBB.out.keeps hc (fun h=>h)).cell 2;simp only[List.getElem?_toArray,List.getElem?_cons_zero,List.getElem?_cons_succ] at q1 q2 r1 r2)
   |(go_at_call 125;refine(HTX.out _ (by first|exact hc|exact hc.drew)).mono ?_;rintro ed w' ⟨rfl,hk⟩;replace hc:=Keeps.tn hc (by first|exact hk|exact hk.un);clear hk))
  all_goals (
   go_wp2_with fail
   go_ret
   refine⟨aF ?_,vJ.out.tn (by first|exact hc|exact hc.drew)⟩
   rw[hd,Bool.true_and])
 ·have hd:(x==y)=false:=by rw[beq_eq_false_iff_ne];exact hxy
  clear hxy
  first
  |(go_region_with (first
     |(go_at_call 105;(first|(refine(fJ.out _ (by first|exact hc|exact hc.drew)).mono ?_)|(refine(BZ.out _ (by first|exact hc|exact hc.drew)).mono ?_));rintro ed w' ⟨rfl,hk⟩;replace hc:=Keeps.tn hc (by first|exact hk|exact hk.un);clear hk;have q1:=(HBA.out.keeps hc (fun h=>h)).cell 1;have r1:=(HBB.out.keeps hc (fun h=>h)).cell 1;simp only[List.getElem?_toArray,List.getElem?_cons_zero,List.getElem?_cons_succ] at q1 r1)))
  |fail
  all_goals (
   go_wp2_with fail
   go_ret
   refine⟨aF ?_,vJ.out.tn (by first|exact hc|exact hc.drew)⟩
   rw[hd,Bool.false_and])
end Go.Proofs.YtdkogijdfgfpeaaGreatDoor

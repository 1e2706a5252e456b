/- (*tree.Parser).add, open, leads, name; slices.Contains. -/
import Derived.Test.YtdkogijdfgfpeaaGreatDoorZRefS
import Derived.Laws.EntriesVeiled
import Derived.Test.YtdkogijdfgfpeaaGreatDoorZExpW
import Derived.StillTailTactics
set_option linter.unusedVariables false
namespace Go.Proofs.YtdkogijdfgfpeaaGreatDoor
open Go Go.RowKit
set_option maxHeartbeats 1600000
set_option maxRecDepth 100000
theorem WI:(Tryz.prog.info? 49).map (fun i=>(i.zero,i.size,i.bytes))=some (some (.agg #[.string ⟨#[]⟩,.int .i64 0,.string ⟨#[]⟩]),3,40):=by kernel_rfl
theorem WJ{B b:Nat}{tail:PT}{ts:List (Job×Value)}{σ:aT}{w w1:World}{vr vt vl va:Value}(H:pq B b tail ts σ w vr vt vl va)(k:Int)(d:List UInt8)(C:Array Value)(ao:Option Addr)(cc n:Nat)(hn:n=σ.nodes.length+1)
 (hs:Sl w1 B 49 3 (.slice ao n cc) n (ak σ.nodes++[sv σ.path,.int .i64 k,sv d])) (hk:Kp B [49] (w.alloc (.cells C 49)) w1)
 (hx:∀(B':Nat) (t:Value) (k:Nat) (ys:List Value),Sl (w.alloc (.cells C 49)) B' 49 3 t k ys→Ahead 3 vl t→Sl w1 B' 49 3 t k ys∧Ahead 3 (.slice ao n cc) t):
 pq B b tail ts (σ.add k d) (w1.setCell ⟨b,5,none⟩ (.slice ao n cc)) vr vt (.slice ao n cc) va∧Kp B [49,TB] w (w1.setCell ⟨b,5,none⟩ (.slice ao n cc)):=by
 subst hn
 have hk0:Kp B [49] w w1:=((Kp.refl _ _ _).alloc _).trans hk
 have b1:=H.blk.kp hk0 (.inr (by decide))
 have k2:Kp B [TB] w1 (w1.setCell ⟨b,5,none⟩ (.slice ao (σ.nodes.length+1) cc)):=(Kp.refl _ _ _).set b1 (.inr ⟨H.le,by simp⟩) _ _
 have b2:=b1.set 5 (.slice ao (σ.nodes.length+1) cc)
 rw[(fP ..).2.2.2.2.2.1] at b2
 have sub:∀T∈([49]:List TypeId),T∈zF:=by intro T hT;simp only[List.mem_singleton] at hT;subst hT;simp
 have Me:∀T∈([TB]:List TypeId),T∈zF:=by intro T hT;simp only[List.mem_singleton] at hT;subst hT;simp
 refine⟨⟨b2,H.le,(H.rest.kp hk0 (.inl (by decide))).kp k2 (.inl (by decide)),(H.todo.kp hk0 (.inl (by decide))).kp k2 (.inl (by decide)),?_,(H.above.kp hk0 (.inl (by decide))).kp k2 (.inl (by decide)),fun t ht=>((H.jobs t ht).kp hk0 sub).kp k2 Me,fun t ht=>⟨(hx _ _ _ _ ((H.kept t ht).1.alloc _) (H.kept t ht).2).1.kp k2 (.inl (by decide)),(hx _ _ _ _ ((H.kept t ht).1.alloc _) (H.kept t ht).2).2⟩⟩,(hk0.mono (.inr ⟨Nat.le_refl _,by simp⟩)).trans (k2.mono (.inr ⟨Nat.le_refl _,by simp⟩))⟩
 rw[show(σ.add k d).nodes=σ.nodes++[⟨σ.path,k,d⟩] from rfl,List.length_append,gW]
 exact hs.kp k2 (.inl (by decide))
theorem add_any{B b:Nat}{tail:PT}{ts:List (Job×Value)}{σ:aT}{w:World}(h:PA B b tail ts σ w)(k:Int)(s:ByteArray)(hl:σ.nodes.length≤1099511627776):
 Calls Tryz.prog 169 #[.pointer (some ⟨b,0,none⟩),.int .i64 k,.string s] w fun ed w'=>ed=.returned (.tuple #[])∧PA B b tail ts (σ.add k s.data.toList) w'∧Kp B [49,TB] w w':=by
 obtain⟨vr,vt,vl,va,h⟩:=h
 obtain⟨i0,hi,hz0,hz1,hz2⟩:=info_parts WI
 have c5:w.cell? ⟨b,5,none⟩=some vl:=(h.blk.cell 5).trans (aY ..).2.2.2.2.2.1
 have c7:w.cell? ⟨b,7,none⟩=some (sv σ.path):=(h.blk.cell 7).trans (aY ..).2.2.2.2.2.2.2
 unfold sv at c7
 have hsl:=h.nodes
 have hblt:=h.lt
 have hbw:=h.le
 have H:=Lib.hid h
 clear h
 go_enter Tryz.func169,Tryz.ntmps169
 go_upto_region 0 with(fail)
 go_region_law (refine oQ rfl _ _ 50 50 rfl 49 i0 _ 3 40 Tryz.underlying50 hi hz0 hz1 hz2 rfl B vl _ _ rfl _ rfl 1 [.string ⟨σ.path.toArray⟩,.int .i64 k,.string s] (by simp;omega) (by first|exact hsl.alloc _|exact hsl) (by first|exact Src.kP Tryz.underlying50 (Sl.dM w 0 (Nat.zero_le _) 49 3 1 [.string ⟨σ.path.toArray⟩,.int .i64 k,.string s] rfl (by simp[maxLen])) (by intro u hu;simp only[List.mem_cons,List.not_mem_nil,or_false] at hu;rcases hu with rfl|rfl|rfl <;> rfl)) (by unfold maxLen;omega) (by omega) ?_;intro ao cc w1 hs1 hk1 lW hb1 hx1;have iy:=Lib.hid (Kp.gJ hk1);have oI:=Lib.hid hs1;have HX1:Hid (∀(B':Nat) (t:Value) (k':Nat) (ys:List Value),Sl (w.alloc (.cells #[.string ⟨σ.path.toArray⟩,.int .i64 k,.string s] 49)) B' 49 3 t k' ys→Ahead 3 vl t→Sl w1 B' 49 3 t k' ys∧Ahead 3 (.slice ao (σ.nodes.length+1) cc) t):=fun B' t k' ys ht ha=>hx1 B' t k' ys (by first|exact ht|exact ht.drewN 1) ha;have B1:=Lib.hid ((H.out.blk.alloc (.cells #[.string ⟨σ.path.toArray⟩,.int .i64 k,.string s] 49)).kp iy.out (.inr (by decide)));have c51:w1.cell? ⟨b,5,none⟩=some vl:=(B1.out.cell 5).trans (aY ..).2.2.2.2.2.1;have f51:=B1.out.free 5;clear hs1 hk1 lW hb1 hx1)
 all_goals (
  have hst:=WJ H.out k s.data.toList _ ao cc (σ.nodes.length+1) rfl (by have h1:=oI.out;simpa [sv] using h1) iy.out HX1.out
  have HST:=Lib.hid hst
  clear hst
  go_wp2_with fail
  go_end0
  exact⟨rfl,⟨_,_,_,_,HST.out.1⟩,HST.out.2⟩)
theorem SS{B b:Nat}{tail:PT}{ts:List (Job×Value)}{σ:aT}{w w1:World}{vr vt vl va:Value}(H:pq B b tail ts σ w vr vt vl va)(C:Array Value)(ao:Option Addr)(cc n:Nat)(hn:n=σ.above.length+1)
 (hs:Sl w1 B 160 2 (.slice ao n cc) n (dh σ.above++[sv σ.path,sv []])) (hk:Kp B [160] (w.alloc (.cells C 160)) w1):
 pq B b tail ts {σ with above:=σ.above++[(σ.path,[])]} (w1.setCell ⟨b,6,none⟩ (.slice ao n cc)) vr vt vl (.slice ao n cc)∧Kp B [160,TB] w (w1.setCell ⟨b,6,none⟩ (.slice ao n cc)):=by
 subst hn
 have hk0:Kp B [160] w w1:=((Kp.refl _ _ _).alloc _).trans hk
 have b1:=H.blk.kp hk0 (.inr (by decide))
 have k2:Kp B [TB] w1 (w1.setCell ⟨b,6,none⟩ (.slice ao (σ.above.length+1) cc)):=(Kp.refl _ _ _).set b1 (.inr ⟨H.le,by simp⟩) _ _
 have b2:=b1.set 6 (.slice ao (σ.above.length+1) cc)
 rw[(fP ..).2.2.2.2.2.2.1] at b2
 have sub:∀T∈([160]:List TypeId),T∈zF:=by intro T hT;simp only[List.mem_singleton] at hT;subst hT;simp
 have Me:∀T∈([TB]:List TypeId),T∈zF:=by intro T hT;simp only[List.mem_singleton] at hT;subst hT;simp
 refine⟨⟨b2,H.le,(H.rest.kp hk0 (.inl (by decide))).kp k2 (.inl (by decide)),(H.todo.kp hk0 (.inl (by decide))).kp k2 (.inl (by decide)),(H.nodes.kp hk0 (.inl (by decide))).kp k2 (.inl (by decide)),?_,fun t ht=>((H.jobs t ht).kp hk0 sub).kp k2 Me,fun t ht=>⟨((H.kept t ht).1.kp hk0 (.inl (by decide))).kp k2 (.inl (by decide)),(H.kept t ht).2⟩⟩,(hk0.mono (.inr ⟨Nat.le_refl _,by simp⟩)).trans (k2.mono (.inr ⟨Nat.le_refl _,by simp⟩))⟩
 show Sl _ B _ 2 _ (σ.above++[(σ.path,[])]).length (dh (σ.above++[(σ.path,[])]))
 rw[List.length_append,bW]
 exact hs.kp k2 (.inl (by decide))
theorem open_any{B b:Nat}{tail:PT}{ts:List (Job×Value)}{σ:aT}{w:World}(h:PA B b tail ts σ w)(s:ByteArray)(p:Int)(hl:σ.nodes.length≤1099511627776)(ha:σ.above.length≤1099511627776):
 Calls Tryz.prog 156 #[.pointer (some ⟨b,0,none⟩),.string s,.int .i64 p] w fun ed w'=>ed=.returned (.tuple #[])∧PA B b tail ts (bI .open' s.data.toList p σ).2 w'∧Kp B [TB] w w':=by
 have HP:=Lib.hid h
 obtain⟨vr,vt,vl,va,h⟩:=h
 have c5:w.cell? ⟨b,5,none⟩=some vl:=(h.blk.cell 5).trans (aY ..).2.2.2.2.2.1
 have c6:w.cell? ⟨b,6,none⟩=some va:=(h.blk.cell 6).trans (aY ..).2.2.2.2.2.2.1
 obtain⟨a1,cp1,rfl,-,-⟩:=h.nodes.shape
 obtain⟨a2,cp2,rfl,-,-⟩:=h.above.shape
 clear h
 by_cases h5:5<σ.above.length
 ·have hd:decide ((5:Int)<(σ.above.length:Int))=true:=by simp;omega
  have HS:Hid ((bI .open' s.data.toList p σ).2=σ.fail 8 p):=by show _=_;simp only[bI,if_pos h5]
  clear h5
  go_enter Tryz.func156,Tryz.ntmps156
  go_wp2_with fail
  refine(kH HP.out 8 p).mono ?_
  rintro e w' ⟨rfl,h1,h2⟩
  go_wp2_with fail
  go_end0
  rw[HS.out]
  exact⟨rfl,h1,h2⟩
 ·have hd:decide ((5:Int)<(σ.above.length:Int))=false:=by simp;omega
  by_cases h30:σ.nodes.length=30
  ·have hd2:((σ.nodes.length:Int)==30)=true:=by simp;omega
   have HS:Hid ((bI .open' s.data.toList p σ).2=σ.fail 9 p):=by show _=_;simp only[bI,if_neg h5,if_pos h30]
   clear h5 h30
   go_enter Tryz.func156,Tryz.ntmps156
   go_wp2_with fail
   refine(kH HP.out 9 p).mono ?_
   rintro e w' ⟨rfl,h1,h2⟩
   go_wp2_with fail
   go_end0
   rw[HS.out]
   exact⟨rfl,h1,h2⟩
  ·have hd2:((σ.nodes.length:Int)==30)=false:=by rw[beq_eq_false_iff_ne];omega
   have HS:Hid ((bI .open' s.data.toList p σ).2=σ):=by show _=_;simp only[bI,if_neg h5,if_neg h30]
   clear h5 h30
   go_enter Tryz.func156,Tryz.ntmps156
   go_wp2_with fail
   go_end0
   rw[HS.out]
   exact⟨rfl,HP.out,Kp.refl _ _ _⟩
theorem SV{B b:Nat}{tail:PT}{ts:List (Job×Value)}{σ:aT}{w:World}(h:PA B b tail ts σ w)(s:ByteArray)(hs:s.size≤maxLen)(p:Int)(hl:σ.nodes.length≤1099511627776):
 Calls Tryz.prog 168 #[.pointer (some ⟨b,0,none⟩),.string s,.int .i64 p] w fun ed w'=>ed=.returned (.tuple #[])∧PA B b tail ts (aN .leads s.data.toList p σ).2 w'∧Kp B [49,TB] w w':=by
 have HP:=Lib.hid h
 clear h
 cases hd:aZ 3 s.data.toList with
 |true=>
  have HS:Hid ((aN .leads s.data.toList p σ).2=σ.add 3 s.data.toList):=by show _=_;simp only[aN,hd,if_true]
  have HD:=Lib.hid hd
  clear hd
  go_enter Tryz.func168,Tryz.ntmps168
  go_wp2_with fail
  refine(sH 3 s _ hs).mono ?_
  rintro e w1 ⟨rfl,rfl⟩
  rw[HD.out]
  go_wp2_with fail
  refine(add_any HP.out 3 s hl).mono ?_
  rintro e w2 ⟨rfl,h1,h2⟩
  go_wp2_with fail
  go_end0
  rw[HS.out]
  exact⟨rfl,h1,h2⟩
 |false=>
  have HS:Hid ((aN .leads s.data.toList p σ).2=(σ.fail 6 p).add 3 s.data.toList):=by show _=_;simp only[aN,hd,Bool.false_eq_true,if_false]
  have HD:=Lib.hid hd
  clear hd
  have hl2:(σ.fail 6 p).nodes.length≤1099511627776:=by unfold aT.fail;split <;> exact hl
  go_enter Tryz.func168,Tryz.ntmps168
  go_wp2_with fail
  refine(sH 3 s _ hs).mono ?_
  rintro e w1 ⟨rfl,rfl⟩
  rw[HD.out]
  go_wp2_with fail
  refine(kH HP.out 6 p).mono ?_
  rintro e w1 ⟨rfl,h1,h2⟩
  have H1:=Lib.hid h1
  have H2:=Lib.hid h2
  clear h1 h2
  go_wp2_with fail
  refine(add_any H1.out 3 s hl2).mono ?_
  rintro e w2 ⟨rfl,h1,h2⟩
  go_wp2_with fail
  go_end0
  rw[HS.out]
  exact⟨rfl,h1,(H2.out.mono (.inr ⟨Nat.le_refl _,by simp⟩)).trans h2⟩
def WL(l:List (List UInt8))(s:List UInt8):Nat→Int
 |0=> -1
 |k+1=>if l[l.length-(k+1)]? =some s then ((l.length-(k+1):Nat):Int) else WL l s k
theorem QF(l:List (List UInt8))(s:List UInt8):∀k,k≤l.length→(0≤WL l s k↔s∈l.drop (l.length-k))
 |0,_=>by simp[WL]
 |k+1,h=>by
  have hl:l.length-(k+1)<l.length:=by omega
  have e:l.drop (l.length-(k+1))=l[l.length-(k+1)] :: l.drop (l.length-k):=by
   rw[List.drop_eq_getElem_cons hl];congr 2;omega
  unfold WL
  rw[e,List.mem_cons,List.getElem?_eq_getElem hl]
  split
  ·rename_i h1
   simp only[Option.some.injEq] at h1
   exact⟨fun _=>.inl h1.symm,fun _=>by omega⟩
  ·rename_i h1
   simp only[Option.some.injEq] at h1
   rw[QF l s k (by omega)]
   exact⟨fun h=>.inr h,fun h=>h.resolve_left (fun e=>h1 e.symm)⟩
theorem abh(l:List (List UInt8))(k:Nat)(h:k<l.length):(bf l)[k]? =some (sv l[k]):=by simp[bf,List.getElem?_eq_getElem h]
theorem SX(l:List (List UInt8))(v:Value)(s:ByteArray)(w:World)(hv:Sl w 0 9 1 v l.length (bf l)):
 Calls Tryz.prog 74 #[v,.string s] w fun e w'=>e=.returned (.int .i64 (WL l s.data.toList l.length))∧w=w':=by
 obtain⟨a0,c0,rfl,hc1,hc2⟩:=hv.shape
 unfold maxLen at hc2
 have HV:=Lib.hid hv
 clear hv
 go_enter Tryz.func74,Tryz.ntmps74
 go_wp2_with fail
 go_loopg [8] l.length (fun gk iv wr=>∃k:Nat,gk=l.length-k∧k≤l.length∧iv=.int .i64 k∧w=wr∧Hid (WL l s.data.toList l.length=WL l s.data.toList (l.length-k)))
 case atStart=>exact⟨0,rfl,Nat.zero_le _,rfl,rfl,rfl⟩
 case round=>
  obtain⟨k,rfl,hk,rfl,rfl,HA⟩:=hrel
  by_cases hlt:k<l.length
  ·obtain⟨b',o',c',hsh,-,-,-,kZ,hcc,-⟩:=HV.out.pos (by omega)
   cases hsh
   have d0:w.cell? ⟨b',o'+k,none⟩=some (sv l[k]):=(hcc k (by omega)).trans (abh l k hlt)
   unfold sv at d0
   have Kv:WL l s.data.toList (l.length-k)=if l[k]=s.data.toList then (k:Int) else WL l s.data.toList (l.length-(k+1)):=by
    rw[show l.length-k=(l.length-(k+1))+1 by omega,WL,show l.length-(l.length-(k+1)+1)=k by omega,List.getElem?_eq_getElem hlt]
    simp
   have Kw:=Lib.hid Kv
   clear hcc Kv
   generalize l[k]=x at *
   by_cases he:x=s.data.toList
   ·have hb:(s.toList==x)=true:=by rw[ByteArray.toList_eq,he];exact beq_self_eq_true _
    have HE:=Lib.hid he
    clear he
    go_wp2_with fail
    go_ret
    refine⟨?_,rfl⟩
    rw[HA.out,Kw.out,if_pos HE.out];rfl
   ·have hb:(s.toList==x)=false:=by
     rw[beq_eq_false_iff_ne,ByteArray.toList_eq];exact fun e=>he e.symm
    have HE:Hid (¬x=s.data.toList):=he
    clear he
    go_wp2_with fail
    go_roundg (l.length-(k+1))
    case measure=>omega
    case rel=>exact⟨k+1,rfl,by omega,by go_num,rfl,by show _=_;rw[HA.out,Kw.out,if_neg HE.out]⟩
  ·have hk2:k=l.length:=by omega
   subst hk2
   go_wp2_with fail
   go_ret
   refine⟨?_,rfl⟩
   rw[HA.out,Nat.sub_self];rfl
theorem zJ(l:List (List UInt8))(v:Value)(s:ByteArray)(w:World)(hv:Sl w 0 9 1 v l.length (bf l)):
 Calls Tryz.prog 39 #[v,.string s] w fun e w'=>e=.returned (.bool (decide (s.data.toList∈l)))∧w=w':=by
 have HV:=Lib.hid hv
 clear hv
 have hm:=QF l s.data.toList l.length (Nat.le_refl _)
 rw[Nat.sub_self,List.drop_zero] at hm
 have hd:decide (0≤WL l s.data.toList l.length)=decide (s.data.toList∈l):=by
  rw[decide_eq_decide];exact hm
 have HD:=Lib.hid hd
 clear hm hd
 go_enter Tryz.func39,Tryz.ntmps39
 go_wp2_with fail
 refine(SX l v s _ HV.out).mono ?_
 rintro e w1 ⟨rfl,rfl⟩
 go_wp2_with fail
 go_ret
 refine⟨?_,rfl⟩
 rw[←HD.out];rfl
theorem SY:(Tryz.prog.info? 160).map (fun i=>(i.zero,i.size,i.bytes))=some (some (.agg #[.string ⟨#[]⟩,.string ⟨#[]⟩]),2,32):=by kernel_rfl
abbrev pJ:List TypeId:=[113,49,160,TB]
def nZ(w:World)(v f:Value):Prop:=∀(bm bp bt:Nat) (vm:Value),f=.func (.func 77) #[] #[.pointer (some ⟨bm,0,none⟩),.pointer (some ⟨bp,0,none⟩),.pointer (some ⟨bt,0,none⟩)]→aS w bm #[vm] 26→Ahead 1 v vm
def yJ(w w':World)(us:List (Job×Value)):Prop:=∀(v:Value) (B n:Nat) (ys:List Value),Sl w B 9 1 v n ys→∀t∈us,t.1=fC∨t.1=gU→nZ w' v t.2
theorem yJ.none{w w':World}{us:List (Job×Value)}(h:∀j∈us.map Prod.fst,j≠fC∧j≠gU):yJ w w' us:=fun v B n ys hs t ht he=>absurd he (fun e=>e.elim (h _ (List.mem_map.2 ⟨t,ht,rfl⟩)).1 (h _ (List.mem_map.2 ⟨t,ht,rfl⟩)).2)
def Did(B b:Nat)(tail:PT)(ts:List (Job×Value))(r:List Job×aT)(w:World)(ed:Ending)(w':World):Prop:=
 ed=.returned (.tuple #[])∧(∃us:List (Job×Value),(us.map Prod.fst).reverse=r.1∧PA B b tail (ts++us) r.2 w'∧yJ w w' us)∧Kp B pJ w w'
theorem Did.plain{B b:Nat}{tail:PT}{ts:List (Job×Value)}{r:List Job×aT}{w w':World}{ed:Ending}{Ts:List TypeId}(he:ed=.returned (.tuple #[]))(hr:r.1=[])(h:PA B b tail ts r.2 w')(hk:Kp B Ts w w')(hT:∀T∈Ts,T∈pJ):Did B b tail ts r w ed w':=
 ⟨he,⟨[],by rw[hr];rfl,by rwa [List.append_nil],yJ.none (by simp)⟩,hk.mono (.inr ⟨Nat.le_refl _,hT⟩)⟩
theorem Did.E8{B b:Nat}{tail:PT}{ts us:List (Job×Value)}{r:List Job×aT}{w w0 w':World}{ed:Ending}(he:ed=.returned (.tuple #[]))(hr:us.map Prod.fst=r.1)(h:PA B b tail (ts++us.reverse) r.2 w')(hk0:Kp B pJ w w0)(hk:Kp B [113,TB] w0 w')(hf:yJ w w' us.reverse):Did B b tail ts r w ed w':=
 ⟨he,⟨us.reverse,by rw[List.map_reverse,List.reverse_reverse,hr],h,hf⟩,hk0.trans (hk.mono (.inr ⟨Nat.le_refl _,by simp⟩))⟩
theorem Did.planned{B b:Nat}{tail:PT}{ts us:List (Job×Value)}{r:List Job×aT}{w w0 w':World}{ed:Ending}(he:ed=.returned (.tuple #[]))(hr:us.map Prod.fst=r.1)(h:PA B b tail (ts++us.reverse) r.2 w')(hk0:Kp B pJ w w0)(hk:Kp B [113,TB] w0 w')(hm:r.1.all (fun j=>decide (j≠fC∧j≠gU))=true:=by rfl):Did B b tail ts r w ed w':=
 Did.E8 he hr h hk0 hk (yJ.none (by rw[List.map_reverse,hr];intro j hj;exact of_decide_eq_true (List.all_eq_true.1 hm j (List.mem_reverse.1 hj))))
theorem WM{B b:Nat}{tail:PT}{ts:List (Job×Value)}{σ:aT}{w:World}(h:PA B b tail ts σ w)(s:ByteArray)(p:Int)(hl:σ.nodes.length≤1099511627776)(ha:σ.above.length≤1099511627776)(ht:ts.length≤1099511627000):
 Calls Tryz.prog 157 #[.pointer (some ⟨b,0,none⟩),.string s,.int .i64 p] w (Did B b tail ts (bI .kind s.data.toList p σ) w):=by
 have H0:=Lib.hid h
 clear h
 by_cases h1:s.data.toList=fA
 ·have hb:(s.toList==[102,105,108,101])=true:=by rw[ByteArray.toList_eq,h1];rfl
  have HS:Hid (bI .kind s.data.toList p σ=([.word [jP,gK] .file],σ)):=by show _=_;simp only[bI,h1,if_true]
  clear h1
  go_enter Tryz.func157,Tryz.ntmps157
  go_wp2_with fail
  refine(fH b [jP,gK] .file _ _ (aP w 2 _ [jP,gK] _ rfl rfl rfl (by simp))).mono ?_
  rintro e w1 ⟨f1,rfl,hj1,hk1⟩
  have Bd:Keeps Non w w1:=((Keeps.refl _ _).alloc _).trans hk1 (fun k hk=>.inl hk)
  have J1:=Lib.hid hj1
  have K1:=Lib.hid Bd
  have H1:=Lib.hid (H0.out.keeps Bd)
  clear hj1 hk1 Bd
  go_wp2_with fail
  refine(lZ H1.out [(.word [jP,gK] .file,f1)] 1 _ _ rfl rfl rfl (by omega) (by intro t ht;obtain rfl:=List.mem_singleton.1 ht;exact J1.out) ht).mono ?_
  rintro e w2 ⟨rfl,h2,k2⟩
  have H2:=Lib.hid h2
  have K2:=Lib.hid k2
  clear h2 k2
  go_wp2_with fail
  go_end0
  rw[HS.out]
  exact Did.planned rfl rfl H2.out (Kp.aI K1.out) K2.out
 have hb:(s.toList==[102,105,108,101])=false:=by rw[ByteArray.toList_eq,beq_eq_false_iff_ne];exact h1
 by_cases h2:s.data.toList=fB
 ·have hb2:(s.toList==[108,105,110,107])=true:=by rw[ByteArray.toList_eq,h2];rfl
  have HS:Hid (bI .kind s.data.toList p σ=([.word [Lr] .none,.leads,.word [aX] .none],σ)):=by show _=_;simp only[bI,h2,if_true];rfl
  clear h1 h2
  go_enter Tryz.func157,Tryz.ntmps157
  go_wp2_with fail
  refine(fH b [Lr] .none _ _ (aP w 1 _ [Lr] _ rfl rfl rfl (by simp))).mono ?_
  rintro e w1 ⟨f1,rfl,hj1,hk1⟩
  have Bd:Keeps Non w w1:=((Keeps.refl _ _).alloc _).trans hk1 (fun k hk=>.inl hk)
  have J1:=Lib.hid hj1
  have K1:=Lib.hid Bd
  clear hj1 hk1 Bd
  go_wp2_with fail
  refine(tY b 100 (.func (.func 168) #[.pointer (some ⟨b,0,none⟩)] #[]) rfl ⟨_,_,_,rfl⟩ w1).mono ?_
  rintro e w2 ⟨rfl,hk2⟩
  have WH:=Lib.hid (J1.out.keeps hk2)
  have K2:=Lib.hid (K1.out.trans hk2 (fun k hk=>.inl hk))
  clear hk2 J1 K1
  go_wp2_with fail
  refine(fH b [aX] .none _ _ (aP w2 1 _ [aX] _ rfl rfl rfl (by simp))).mono ?_
  rintro e w3 ⟨f3,rfl,hj3,hk3⟩
  have nY:Keeps Non w2 w3:=((Keeps.refl _ _).alloc _).trans hk3 (fun k hk=>.inl hk)
  have ZX:=Lib.hid (WH.out.keeps nY)
  have J3:=Lib.hid hj3
  have K3:=Lib.hid (K2.out.trans nY (fun k hk=>.inl hk))
  have H3:=Lib.hid (H0.out.keeps K3.out)
  clear hj3 hk3 nY WH K2
  go_wp2_with fail
  refine(lZ H3.out [(.word [Lr] .none,f1),(.leads,.func (.func 168) #[.pointer (some ⟨b,0,none⟩)] #[]),(.word [aX] .none,f3)] 3 _ _ rfl rfl rfl (by omega) (by intro t ht;simp only[List.mem_cons,List.not_mem_nil,or_false] at ht;rcases ht with rfl|rfl|rfl;exact ZX.out;rfl;exact J3.out) ht).mono ?_
  rintro e w4 ⟨rfl,h4,k4⟩
  have H4:=Lib.hid h4
  have K4:=Lib.hid k4
  clear h4 k4
  go_wp2_with fail
  go_end0
  rw[HS.out]
  exact Did.planned rfl rfl H4.out (Kp.aI K3.out) K4.out
 have hb2:(s.toList==[108,105,110,107])=false:=by rw[ByteArray.toList_eq,beq_eq_false_iff_ne];exact h2
 by_cases h3:s.data.toList=jm
 ·have hb3:(s.toList==[100,105,114])=true:=by rw[ByteArray.toList_eq,h3];rfl
  have HS:Hid (bI .kind s.data.toList p σ=([mQ],{σ.add 4 [] with above:=σ.above++[(σ.path,[])]})):=by show _=_;simp only[bI,h3,if_true];rfl
  clear h1 h2 h3
  go_enter Tryz.func157,Tryz.ntmps157
  go_wp2_with fail
  refine(add_any H0.out 4 ⟨#[]⟩ hl).mono ?_
  rintro e w1 ⟨rfl,h1,k1⟩
  have K1:Hid (Kp B pJ w w1):=k1.mono (.inr ⟨Nat.le_refl _,by simp⟩)
  have ha1:(σ.add 4 []).above.length≤1099511627776:=ha
  have HS2:Hid ({σ.add 4 [] with above:=σ.above++[(σ.path,[])]}={σ.add 4 [] with above:=(σ.add 4 []).above++[((σ.add 4 []).path,[])]}):=rfl
  have h1':PA B b tail ts (σ.add 4 []) w1:=h1
  rw[HS2.out] at HS
  generalize σ.add 4 []=σ1 at *
  clear h1 k1 H0 HS2
  obtain⟨vr,vt,vl,va,h1⟩:=h1'
  obtain⟨i0,hi,hz0,hz1,hz2⟩:=info_parts SY
  have c6:w1.cell? ⟨b,6,none⟩=some va:=(h1.blk.cell 6).trans (aY ..).2.2.2.2.2.2.1
  have c7:w1.cell? ⟨b,7,none⟩=some (sv σ1.path):=(h1.blk.cell 7).trans (aY ..).2.2.2.2.2.2.2
  unfold sv at c7
  have hsl:=h1.above
  have hblt:=h1.lt
  have hbw:=h1.le
  have H:=Lib.hid h1
  clear h1
  go_upto_region 7 with(fail)
  go_region_law (refine oL rfl _ _ 105 105 rfl 160 i0 _ 2 32 Tryz.underlying105 hi hz0 hz1 hz2 rfl B va _ _ rfl _ rfl 1 [.string ⟨σ1.path.toArray⟩,.string ⟨#[]⟩] (by simp;omega) (by first|exact hsl.alloc _|exact hsl) (by first|exact Src.kP Tryz.underlying105 (Sl.dM w1 0 (Nat.zero_le _) 160 2 1 [.string ⟨σ1.path.toArray⟩,.string ⟨#[]⟩] rfl (by simp[maxLen])) (by intro u hu;simp only[List.mem_cons,List.not_mem_nil,or_false] at hu;rcases hu with rfl|rfl <;> rfl)) (by unfold maxLen;omega) (by omega) ?_;intro ao cc w2 hs1 hk1 lW hb1;have iy:=Lib.hid (Kp.gJ hk1);have oI:=Lib.hid hs1;have B1:=Lib.hid ((H.out.blk.alloc (.cells #[.string ⟨σ1.path.toArray⟩,.string ⟨#[]⟩] 160)).kp iy.out (.inr (by decide)));have c61:w2.cell? ⟨b,6,none⟩=some va:=(B1.out.cell 6).trans (aY ..).2.2.2.2.2.2.1;have f61:=B1.out.free 6;clear hs1 hk1 lW hb1)
  all_goals (
   have hst:=SS H.out _ ao cc (σ1.above.length+1) rfl (by have h1:=oI.out;simpa [sv] using h1) iy.out
   go_upto_region 8 with(fail)
   have HST:=Lib.hid hst
   have H2:Hid (PA B b tail ts {σ1 with above:=σ1.above++[(σ1.path,[])]} _):=⟨_,_,_,_,hst.1⟩
   have K2:Hid (Kp B pJ w _):=K1.out.trans (hst.2.mono (.inr ⟨Nat.le_refl _,by simp⟩))
   clear hst HST
   generalize World.setCell w2 _ _=w3 at *
   go_wp2_with fail
   refine(fH b [gX,aX] .dir _ _ (aP w3 2 _ [gX,aX] _ rfl rfl rfl (by simp))).mono ?_
   rintro e w4 ⟨f1,rfl,hj1,hk1⟩
   have Bd:Keeps Non w3 w4:=((Keeps.refl _ _).alloc _).trans hk1 (fun k hk=>.inl hk)
   have J1:=Lib.hid hj1
   have K3:=Lib.hid (K2.out.trans (Kp.aI Bd))
   have H3:=Lib.hid (H2.out.keeps Bd)
   clear hj1 hk1 Bd
   go_wp2_with fail
   refine(lZ H3.out [(mQ,f1)] 1 _ _ rfl rfl rfl (by omega) (by intro t ht;obtain rfl:=List.mem_singleton.1 ht;exact J1.out) ht).mono ?_
   rintro e w5 ⟨rfl,h5,k5⟩
   have H5:=Lib.hid h5
   have K5:=Lib.hid k5
   clear h5 k5
   go_wp2_with fail
   go_end0
   rw[HS.out]
   exact Did.planned rfl rfl H5.out K3.out K5.out)
 ·have hb3:(s.toList==[100,105,114])=false:=by rw[ByteArray.toList_eq,beq_eq_false_iff_ne];exact h3
  have HS:Hid (bI .kind s.data.toList p σ=([],σ)):=by show _=_;simp only[bI,if_neg h1,if_neg h2,if_neg h3]
  clear h1 h2 h3
  go_enter Tryz.func157,Tryz.ntmps157
  go_wp2_with fail
  go_end0
  rw[HS.out]
  exact Did.plain (Ts:=[]) rfl rfl H0.out (Kp.refl _ _ _) (by simp)
def MZ(b:Nat)(f1 f2 f4:Value):List (Job×Value):=[(.word [gI] .none,f1),(.word [jQ] .none,f2),(.name,.func (.func 174) #[.pointer (some ⟨b,0,none⟩)] #[]),(.word [nS] .none,f4)]
theorem Fa{us:List (Job×Value)}(h:∀t∈us,t.2.oneCell'=true):∀u∈aW us,u.oneCell'=true:=fun u hu=>by
 simp only[aW,List.mem_flatMap,EG,List.mem_cons,List.not_mem_nil,or_false] at hu
 obtain⟨t,ht,rfl|rfl⟩:=hu
 ·rfl
 ·exact h t ht
theorem WO{B b:Nat}{tail:PT}{ts:List (Job×Value)}{σ:aT}{w:World}{vr vt vl:Value}{ao:Option Addr}{m cap:Nat}(H:pq B b tail ts σ w vr vt vl (.slice ao (m+1) cap))(hm:σ.above.length=m+1):
 pq B b tail ts {σ with above:=σ.above.dropLast} (w.setCell ⟨b,6,none⟩ (.slice ao m cap)) vr vt vl (.slice ao m cap)∧Kp B [TB] w (w.setCell ⟨b,6,none⟩ (.slice ao m cap)):=by
 have k:=H.wF 6 (.slice ao m cap)
 have b1:=H.blk.set 6 (.slice ao m cap)
 rw[(fP ..).2.2.2.2.2.2.1] at b1
 obtain⟨p1,p2,p3,p4,p5,p6⟩:=H.parts k
 refine⟨⟨b1,H.le,p1,p2,p3,?_,p5,p6⟩,k⟩
 rw[hm] at p4
 have h:=p4.take (m:=m) (by omega)
 show Sl _ B _ 2 _ σ.above.dropLast.length (dh σ.above.dropLast)
 have e:σ.above.dropLast=σ.above.take m:=by rw[List.dropLast_eq_take,hm];rfl
 have e2:dh (σ.above.take m)=(dh σ.above).take (m*2):=by
  have h1:dh σ.above=dh (σ.above.take m)++dh (σ.above.drop m):=by rw[←bW,List.take_append_drop]
  have hl:(dh (σ.above.take m)).length=m*2:=by rw[bD,List.length_take,hm,Nat.min_eq_left (by omega)]
  rw[h1]
  exact(List.take_left' hl).symm
 rw[e,e2,List.length_take,Nat.min_eq_left (by omega)]
 exact h
theorem Y9{B b:Nat}{tail:PT}{ts:List (Job×Value)}{σ:aT}{w:World}(h:PA B b tail ts σ w)(s:ByteArray)(p:Int)(ha:σ.above.length≤1099511627776)(hne:0<σ.above.length)(ht:ts.length≤1099511627000):
 Calls Tryz.prog 170 #[.pointer (some ⟨b,0,none⟩),.string s,.int .i64 p] w (Did B b tail ts (bI .dir s.data.toList p σ) w):=by
 by_cases h1:s.data.toList=aX
 ·have hb:(s.toList==[41])=true:=by rw[ByteArray.toList_eq,h1];rfl
  have HS:Hid (bI .dir s.data.toList p σ=([],{σ with above:=σ.above.dropLast})):=by show _=_;simp only[bI,h1,if_true]
  clear h1
  obtain⟨vr,vt,vl,va,h⟩:=h
  have c6:w.cell? ⟨b,6,none⟩=some va:=(h.blk.cell 6).trans (aY ..).2.2.2.2.2.2.1
  have f6:=h.blk.free 6
  obtain⟨m,hm⟩:∃m,σ.above.length=m+1:=⟨σ.above.length-1,by omega⟩
  obtain⟨ao,cap,rfl,hc1,hc2⟩:=h.above.shape
  unfold maxLen at hc2
  rw[hm] at h c6 hc1 ha
  have H:=Lib.hid h
  have HM:=Lib.hid hm
  clear h hm hne
  have hst:=WO H.out HM.out
  have HST:=Lib.hid hst
  clear hst
  have q1:IntKind.i64.wrap (m:Int)=(m:Int):=IntWalk.i64_in _ (by omega)
  have q2:(0:Int)≤(m:Int):=by omega
  have q3:(m:Int)<(m:Int)+1:=by omega
  have q4:m<m+1:=by omega
  have q5:(0:Int)<(m:Int)+1:=by omega
  have q7:(m:Int)≤(cap:Int):=by omega
  have q8:m≤cap:=by omega
  have q6:IntKind.i64.wrap ((m:Int)+1-1)=(m:Int):=by rw[IntWalk.i64_in _ (by omega)];omega
  go_enter Tryz.func170,Tryz.ntmps170
  go_wp2_with fail
  go_still_tail 14,(by kernel_rfl)
  go_wp2_with fail
  go_end0
  rw[HS.out]
  exact Did.plain (Ts:=[TB]) rfl rfl ⟨_,_,_,_,HST.out.1.keeps ((Keeps.refl _ _).drew)⟩ HST.out.2.drew (by simp)
 ·have hb:(s.toList==[41])=false:=by rw[ByteArray.toList_eq,beq_eq_false_iff_ne];exact h1
  have HS:Hid (bI .dir s.data.toList p σ=([.word [gI] .none,.word [jQ] .none,.name,.word [nS] .none]++kG++[.word [aX] .none,mQ],σ)):=by show _=_;simp only[bI,if_neg h1]
  clear h1
  obtain⟨vr,vt,vl,va,h⟩:=h
  have hown:Hid (∀k,w.heap.size≤k→vt.ownBlock≠some k):=fun k hk e=>by have:=h.todo.pR e;omega
  have H0:=Lib.hid h
  clear h
  obtain⟨i0,hi,hz0,hz1,hz2⟩:=info_parts ER
  go_enter Tryz.func170,Tryz.ntmps170
  go_wp2_with fail
  refine(fH b [gI] .none _ _ (aP w 1 _ [gI] _ rfl rfl rfl (by simp))).mono ?_
  rintro e w1 ⟨f1,rfl,hj1,hk1⟩
  have Bd:Keeps Non w w1:=((Keeps.refl _ _).alloc _).trans hk1 (fun k hk=>.inl hk)
  have J1:=Lib.hid hj1
  have K1:=Lib.hid Bd
  clear hj1 hk1 Bd
  go_wp2_with fail
  refine(fH b [jQ] .none _ _ (aP w1 1 _ [jQ] _ rfl rfl rfl (by simp))).mono ?_
  rintro e w2 ⟨f2,rfl,hj2,hk2⟩
  have hk12:Keeps Non w1 w2:=((Keeps.refl _ _).alloc _).trans hk2 (fun k hk=>.inl hk)
  have WH:=Lib.hid (J1.out.keeps hk12)
  have J2:=Lib.hid hj2
  have K2:=Lib.hid (K1.out.trans hk12 (fun k hk=>.inl hk))
  clear hj2 hk2 hk12 J1 K1
  go_wp2_with fail
  refine(tY b 48 (.func (.func 174) #[.pointer (some ⟨b,0,none⟩)] #[]) rfl ⟨_,_,_,rfl⟩ w2).mono ?_
  rintro e w3 ⟨rfl,hk3⟩
  have ZX:=Lib.hid (WH.out.keeps hk3)
  have J23:=Lib.hid (J2.out.keeps hk3)
  have K3:=Lib.hid (K2.out.trans hk3 (fun k hk=>.inl hk))
  clear hk3 WH J2 K2
  go_wp2_with fail
  refine(fH b [nS] .none _ _ (aP w3 1 _ [nS] _ rfl rfl rfl (by simp))).mono ?_
  rintro e w4 ⟨f4,rfl,hj4,hk4⟩
  have Za:Keeps Non w3 w4:=((Keeps.refl _ _).alloc _).trans hk4 (fun k hk=>.inl hk)
  have J14:=Lib.hid (ZX.out.keeps Za)
  have J24:=Lib.hid (J23.out.keeps Za)
  have J4:=Lib.hid hj4
  have K4:=Lib.hid (K3.out.trans Za (fun k hk=>.inl hk))
  clear hj4 hk4 Za ZX J23 K3
  go_wp2_with fail
  have hw1:=zI (w:=w4) (MZ b f1 f2 f4) 4 _ _ rfl rfl rfl (by omega)
  refine(MX b _).mono ?_
  rintro e w5 ⟨g1,g2,g3,bl,rfl,adU,ahZ,hj5,hk5⟩
  have hz:=K4.out.size
  have HW1:Hid (Sl w5 0 113 2 (.slice (some ⟨w4.heap.size,0,none⟩) 4 4) 4 (aW (MZ b f1 f2 f4))):=hw1.kp (Kp.aI (B:=0) (Ts:=[]) hk5) (.inl (by simp))
  have WQ:Keeps Non w4 w5:=((Keeps.refl _ _).alloc _).trans hk5 (fun k hk=>.inl hk)
  have K5:=Lib.hid (K4.out.trans WQ (fun k hk=>.inl hk))
  have J15:=Lib.hid (J14.out.keeps WQ)
  have J25:=Lib.hid (J24.out.keeps WQ)
  have J45:=Lib.hid (J4.out.keeps WQ)
  have adV:=Lib.hid adU
  have HJ5:=Lib.hid hj5
  have adW:Hid (w.heap.size≤w5.heap.size):=K5.out.size
  generalize w4.heap.size=z at *
  have HZ:Hid (w.heap.size≤z):=hz
  clear hw1 ahZ hk5 WQ J14 J24 J4 K4 adU hj5 hz
  go_wp2_with (at_builtin;refine ay rfl _ _ 103 103 rfl 113 i0 _ 2 16 Tryz.underlying103 hi hz0 hz1 hz2 rfl 0 _ 4 (aW (MZ b f1 f2 f4)) rfl _ rfl 3 (aW (ru g1 g2 g3)) (Nat.zero_le _) HW1.out ?c2 ?c3 ?c4 ?_)
  case c2=>exact Src.kP Tryz.underlying103 adV.out (Fa (fun t ht=>(HJ5.out t ht).one))
  case c3=>unfold maxLen;omega
  case c4=>omega
  intro ao cc w6 hs6 hk6 Vq hb6
  have sub:∀T∈([113]:List TypeId),T∈zF:=by intro T hT;simp only[List.mem_singleton] at hT;subst hT;simp
  have Uf:=Lib.hid hs6
  have J16:=Lib.hid (J15.out.kp hk6 sub)
  have J26:=Lib.hid (J25.out.kp hk6 sub)
  have J46:=Lib.hid (J45.out.kp hk6 sub)
  have HJ6:Hid (∀t∈ru g1 g2 g3,dD w6 b t.1 t.2):=fun t ht=>(HJ5.out t ht).kp hk6 sub
  have K6:Hid (Keeps Non w w6):=K5.out.trans Vq (fun k hk=>.inr (by cases hk;exact HZ.out))
  have Yc:Hid (∀k,(Value.slice ao (4+3) cc).ownBlock=some k→w.heap.size≤k):=fun k hk=>by
   rcases hb6 with e|e
   ·rw[e] at hk;cases hk;exact HZ.out
   ·rw[e] at hk;cases hk;exact adW.out
  clear hs6 hk6 Vq hb6 J15 J25 J45 HJ5 adV HW1 K5
  go_wp2_with fail
  refine(fH b [aX] .none _ _ (aP w6 1 _ [aX] _ rfl rfl rfl (by simp))).mono ?_
  rintro e w7 ⟨f8,rfl,hj7,xg⟩
  have Pn:Keeps Non w6 w7:=((Keeps.refl _ _).alloc _).trans xg (fun k hk=>.inl hk)
  have J17:=Lib.hid (J16.out.keeps Pn)
  have J27:=Lib.hid (J26.out.keeps Pn)
  have J47:=Lib.hid (J46.out.keeps Pn)
  have HJ7:Hid (∀t∈ru g1 g2 g3,dD w7 b t.1 t.2):=fun t ht=>(HJ6.out t ht).keeps Pn
  have J87:=Lib.hid hj7
  have X7:=Lib.hid (Uf.out.kp (Kp.aI (B:=0) (Ts:=[]) Pn) (.inl (by simp)))
  have K7:=Lib.hid (K6.out.trans Pn (fun k hk=>.inl hk))
  clear hj7 xg Pn J16 J26 J46 HJ6 Uf K6
  go_wp2_with fail
  refine(fH b [gX,aX] .dir _ _ (aP w7 2 _ [gX,aX] _ rfl rfl rfl (by simp))).mono ?_
  rintro e w8 ⟨f9,rfl,hj8,hk8⟩
  have adY:Keeps Non w7 w8:=((Keeps.refl _ _).alloc _).trans hk8 (fun k hk=>.inl hk)
  have hk78':=adY.alloc (.cells (aW [((.word [aX] .none:Job),f8),(mQ,f9)]).toArray 113)
  have J18:=Lib.hid (J17.out.keeps hk78')
  have J28:=Lib.hid (J27.out.keeps hk78')
  have J48:=Lib.hid (J47.out.keeps hk78')
  have HJ8:Hid (∀t∈ru g1 g2 g3,dD (w8.alloc (.cells (aW [((.word [aX] .none:Job),f8),(mQ,f9)]).toArray 113)) b t.1 t.2):=fun t ht=>(HJ7.out t ht).keeps hk78'
  have J88:=Lib.hid (J87.out.keeps hk78')
  have J98:=Lib.hid (hj8.alloc (.cells (aW [((.word [aX] .none:Job),f8),(mQ,f9)]).toArray 113))
  have KR:=Lib.hid (X7.out.kp (Kp.aI (B:=0) (Ts:=[]) hk78') (.inl (by simp)))
  have K8:=Lib.hid (K7.out.trans hk78' (fun k hk=>.inl hk))
  have Ya:=Lib.hid (zI (w:=w8) [((.word [aX] .none:Job),f8),(mQ,f9)] 2 _ _ rfl rfl rfl (by omega))
  clear hj8 hk8 adY hk78' J17 J27 J47 J87 HJ7 X7 K7
  go_wp2_with (at_builtin;refine ay rfl _ _ 103 103 rfl 113 i0 _ 2 16 Tryz.underlying103 hi hz0 hz1 hz2 rfl 0 _ _ _ rfl _ rfl 2 (aW [((.word [aX] .none:Job),f8),(mQ,f9)]) (Nat.zero_le _) KR.out ?c2 ?c3 ?c4 ?_)
  case c2=>exact Src.kP Tryz.underlying103 Ya.out (Fa (fun t ht=>by simp only[List.mem_cons,List.not_mem_nil,or_false] at ht;rcases ht with rfl|rfl;exact J88.out.one;exact J98.out.one))
  case c3=>unfold maxLen;omega
  case c4=>omega
  intro FU BG w9 hs9 hk9 adZ zX
  have sub:∀T∈([113]:List TypeId),T∈zF:=by intro T hT;simp only[List.mem_singleton] at hT;subst hT;simp
  have K9:Hid (Keeps Non w w9):=K8.out.trans adZ (fun k hk=>.inr (Yc.out k hk))
  have Vw:Hid (∀k,(Value.slice FU (4+3+2) BG).ownBlock=some k→w.heap.size≤k):=fun k hk=>by
   rcases zX with e|e
   ·rw[e] at hk;exact Yc.out k hk
   ·rw[e] at hk;cases hk;have h8:=K8.out.size;rw[World.size_alloc] at h8;exact h8
  obtain⟨us,hus⟩:∃us:List (Job×Value),us=MZ b f1 f2 f4++ru g1 g2 g3++[((.word [aX] .none:Job),f8),(mQ,f9)]:=⟨_,rfl⟩
  have HJ9:Hid (∀t∈us,dD w9 b t.1 t.2):=by
   intro t ht
   refine dD.kp ?_ hk9 sub
   rw[hus] at ht
   rcases List.mem_append.1 ht with ht|ht
   ·rcases List.mem_append.1 ht with ht|ht
    ·simp only[MZ,List.mem_cons,List.not_mem_nil,or_false] at ht
     rcases ht with rfl|rfl|rfl|rfl
     ·exact J18.out
     ·exact J28.out
     ·rfl
     ·exact J48.out
    ·exact HJ8.out t ht
   ·simp only[List.mem_cons,List.not_mem_nil,or_false] at ht
    rcases ht with rfl|rfl
    ·exact J88.out
    ·exact J98.out
  have QG:us.length=4+3+2:=by rw[hus];rfl
  have hs9':Sl w9 0 113 2 (.slice FU (4+3+2) BG) us.length (aW us):=by
   rw[QG,hus,iR,iR]
   exact hs9
  obtain⟨bl2,ol2,cp2,hsh,-,-,-,-,-,-⟩:=hs9'.pos (by omega)
  rw[QG] at hsh
  cases hsh
  have hmap:us.map Prod.fst=[.word [gI] .none,.word [jQ] .none,.name,.word [nS] .none]++kG++[.word [aX] .none,mQ]:=by rw[hus];rfl
  have abj:=Lib.hid hmap
  have HUL:=Lib.hid QG
  have hpl:=ES (H0.out.keeps K9.out) us bl2 ol2 BG (by rw[QG] at hs9' ⊢;exact hs9') (fun e=>hown.out _ (Vw.out bl2 rfl) e) HJ9.out (by omega)
  have Uc:=Lib.hid hpl
  clear hs9 hs9' hk9 adZ zX hus QG hmap hpl Yc Vw J18 J28 J48 J88 J98 HJ8 KR Ya K8 HJ9 HZ adW hi hz0 hz1 hz2
  rw[HUL.out] at Uc
  go_wp2_with fail
  refine Uc.out.mono ?_
  rintro e w10 ⟨rfl,h10,k10⟩
  have Gi:=Lib.hid h10
  have K10:=Lib.hid k10
  clear h10 k10
  go_wp2_with fail
  go_end0
  rw[HS.out]
  exact Did.planned rfl abj.out Gi.out (Kp.aI K9.out) K10.out
end Go.Proofs.YtdkogijdfgfpeaaGreatDoor

/- Lists of texts and of nodes that are only read: the place of a text, Contains, Equal, Clone. -/
import Derived.Test.YtdkogijdfgfpeaaGreatDoorZPackw
import Derived.Deep.DeepCutAuto
import Derived.Deep.LoopGhost
import Derived.Deep.QuietTactic
set_option linter.unusedVariables false
namespace Go.Proofs.YtdkogijdfgfpeaaGreatDoor
open Go Go.RowKit
set_option maxHeartbeats 800000
set_option maxRecDepth 100000
def sQ(l:List (List UInt8))(s:List UInt8):Nat→Int
 |0=> -1
 |k+1=>if l[l.length-(k+1)]? =some s then ((l.length-(k+1):Nat):Int) else sQ l s k
def sS(l:List (List UInt8))(s:List UInt8):Int:=sQ l s l.length
theorem Ku(l:List (List UInt8))(s:List UInt8):∀k,k≤l.length→(0≤sQ l s k↔s∈l.drop (l.length-k))
 |0,_=>by simp[sQ]
 |k+1,h=>by
  have hl:l.length-(k+1)<l.length:=by omega
  have e:l.drop (l.length-(k+1))=l[l.length-(k+1)] :: l.drop (l.length-k):=by
   rw[List.drop_eq_getElem_cons hl];congr 2;omega
  unfold sQ
  rw[e,List.mem_cons,List.getElem?_eq_getElem hl]
  split
  ·rename_i h1
   simp only[Option.some.injEq] at h1
   exact⟨fun _=>.inl h1.symm,fun _=>by omega⟩
  ·rename_i h1
   simp only[Option.some.injEq] at h1
   rw[Ku l s k (by omega)]
   exact⟨fun h=>.inr h,fun h=>h.resolve_left (fun e=>h1 e.symm)⟩
theorem Dy(l:List (List UInt8))(s:List UInt8):0≤sS l s↔s∈l:=by
 have:=Ku l s l.length (Nat.le_refl _)
 rw[Nat.sub_self,List.drop_zero] at this
 exact this
theorem Qi(l:List (List UInt8))(s:List UInt8):∀k,k≤l.length→0≤sQ l s k→∃i:Nat,sQ l s k=i∧i<l.length∧l.length-k≤i∧l[i]? =some s
 |0,_,h=>by simp[sQ] at h
 |k+1,h,h0=>by
  unfold sQ at h0 ⊢
  split
  ·rename_i h1
   exact⟨l.length-(k+1),rfl,by omega,by omega,h1⟩
  ·rename_i h1
   rw[if_neg h1] at h0
   obtain⟨i,h2,h3,h4,h5⟩:=Qi l s k (by omega) h0
   exact⟨i,h2,h3,by omega,h5⟩
theorem Yt{l:List (List UInt8)}{s:List UInt8}(h:s∈l):∃i:Nat,sS l s=i∧i<l.length∧l[i]? =some s:=by
 obtain⟨i,h1,h2,-,h3⟩:=Qi l s l.length (Nat.le_refl _) ((Dy l s).2 h)
 exact⟨i,h1,h2,h3⟩
theorem Qj(l:List (List UInt8))(s:List UInt8):∀k,-1≤sQ l s k
 |0=>by simp[sQ]
 |k+1=>by
  unfold sQ
  split
  ·omega
  ·exact Qj l s k
theorem Q7{l:List (List UInt8)}{s:List UInt8}(h:s∉l):sS l s= -1:=by
 have h1:¬0≤sS l s:=fun h0=>h ((Dy l s).1 h0)
 have h2:=Qj l s l.length
 unfold sS at *
 omega
theorem dJ(l:List (List UInt8))(k:Nat)(h:k<l.length):(bf l)[k]? =some (sv l[k]):=by simp[bf,List.getElem?_eq_getElem h]
theorem Yu(l:List (List UInt8))(v:Value)(s:ByteArray)(w:World)(hv:Rd w 1 v l.length (bf l)):
 Calls Tryz.prog 74 #[v,.string s] w fun e w'=>e=.returned (.int .i64 (sS l s.data.toList))∧w=w':=by
 obtain⟨a0,c0,rfl,hc1,hc2⟩:=hv.shape
 unfold maxLen at hc2
 have HV:=Lib.hid hv
 clear hv
 go_enter Tryz.func74,Tryz.ntmps74
 go_wp2_with fail
 go_loopg [8] l.length (fun gk iv wr=>∃k:Nat,gk=l.length-k∧k≤l.length∧iv=.int .i64 k∧w=wr∧Hid (sS l s.data.toList=sQ l s.data.toList (l.length-k)))
 case atStart=>exact⟨0,rfl,Nat.zero_le _,rfl,rfl,rfl⟩
 case round=>
  obtain⟨k,rfl,hk,rfl,rfl,HA⟩:=hrel
  by_cases hlt:k<l.length
  ·obtain⟨b',o',c',hsh,-,-,-,kZ,hcc,-⟩:=HV.out.pos (by omega)
   cases hsh
   have d0:w.cell? ⟨b',o'+k,none⟩=some (sv l[k]):=(hcc k (by omega)).trans (dJ l k hlt)
   unfold sv at d0
   have Kv:sQ l s.data.toList (l.length-k)=if l[k]=s.data.toList then (k:Int) else sQ l s.data.toList (l.length-(k+1)):=by
    rw[show l.length-k=(l.length-(k+1))+1 by omega,sQ,show l.length-(l.length-(k+1)+1)=k by omega,List.getElem?_eq_getElem hlt]
    simp
   have Kw:=Lib.hid Kv
   clear hcc Kv
   generalize l[k]=x at *
   by_cases he:x=s.data.toList
   ·have hb:(s.toList==x)=true:=by rw[ByteArray.toList_eq,he];exact beq_self_eq_true _
    have HE:=Lib.hid he
    clear he
    go_wp2_with fail
    go_ret
    refine⟨?_,rfl⟩
    rw[HA.out,Kw.out,if_pos HE.out];rfl
   ·have hb:(s.toList==x)=false:=by
     rw[beq_eq_false_iff_ne,ByteArray.toList_eq];exact fun e=>he e.symm
    have HE:Hid (¬x=s.data.toList):=he
    clear he
    go_wp2_with fail
    go_roundg (l.length-(k+1))
    case measure=>omega
    case rel=>exact⟨k+1,rfl,by omega,by go_num,rfl,by show _=_;rw[HA.out,Kw.out,if_neg HE.out]⟩
  ·have hk2:k=l.length:=by omega
   subst hk2
   go_wp2_with fail
   go_ret
   refine⟨?_,rfl⟩
   rw[HA.out,Nat.sub_self];rfl
theorem Yv(l:List (List UInt8))(v:Value)(s:ByteArray)(w:World)(hv:Rd w 1 v l.length (bf l)):
 Calls Tryz.prog 39 #[v,.string s] w fun e w'=>e=.returned (.bool (decide (s.data.toList∈l)))∧w=w':=by
 have HV:=Lib.hid hv
 clear hv
 have hd:decide (0≤sS l s.data.toList)=decide (s.data.toList∈l):=by
  rw[decide_eq_decide];exact Dy _ _
 have HD:=Lib.hid hd
 clear hd
 go_enter Tryz.func39,Tryz.ntmps39
 go_wp2_with fail
 refine(Yu l v s _ HV.out).mono ?_
 rintro e w1 ⟨rfl,rfl⟩
 go_wp2_with fail
 go_ret
 refine⟨?_,rfl⟩
 rw[←HD.out];rfl
theorem mJ{w w':World}(h:∃n,w'=w.drewN n)(k:Nat):∃n,w'.drewN k=w.drewN n:=by
 obtain⟨n,rfl⟩:=h
 exact⟨n+k,by simp[go_sem,World.drewN,Nat.add_assoc]⟩
theorem Yw(l m:List (List UInt8))(v u:Value)(w:World)(hv:Rd w 1 v l.length (bf l))(hu:Rd w 1 u m.length (bf m)):
 Calls Tryz.prog 95 #[v,u] w fun e w'=>e=.returned (.bool (l==m))∧∃n,w'=w.drewN n:=by
 obtain⟨a0,c0,rfl,hc1,hc2⟩:=hv.shape
 obtain⟨a1,c1,rfl,hc3,hc4⟩:=hu.shape
 unfold maxLen at hc2 hc4
 have HV:=Lib.hid hv
 have HU:=Lib.hid hu
 clear hv hu
 by_cases hlen:l.length=m.length
 ·have hb:(!(l.length:Int)==(m.length:Int))=false:=by rw[hlen];simp
  go_enter Tryz.func95,Tryz.ntmps95
  go_wp2_with fail
  go_loopg [13] l.length (fun gk iv wr=>∃k:Nat,gk=l.length-k∧k≤l.length∧iv=.int .i64 k∧Hid (Keeps Non w wr)∧Hid (∃n,wr=w.drewN n)∧Hid (l.take k=m.take k))
  case atStart=>exact⟨0,rfl,Nat.zero_le _,rfl,Keeps.refl _ _,⟨0,rfl⟩,rfl⟩
  case round=>
   obtain⟨k,rfl,hk,rfl,HK,HD,HA⟩:=hrel
   by_cases hlt:k<l.length
   ·have hlt2:k<m.length:=by omega
    obtain⟨b,off,cp,hsh,-,-,-,hbl,hc,-⟩:=(HV.out.non HK.out).pos (by omega)
    cases hsh
    obtain⟨b',off',cp',hsh,-,-,-,hbl',hc',-⟩:=(HU.out.non HK.out).pos (by omega)
    cases hsh
    have d0:wr.cell? ⟨b,off+k,none⟩=some (sv l[k]):=(hc k (by omega)).trans (dJ l k hlt)
    have d1:wr.cell? ⟨b',off'+k,none⟩=some (sv m[k]):=(hc' k (by omega)).trans (dJ m k hlt2)
    unfold sv at d0 d1
    have HX:Hid (l[k]? =some l[k]∧m[k]? =some m[k]):=⟨List.getElem?_eq_getElem hlt,List.getElem?_eq_getElem hlt2⟩
    clear hc hc'
    generalize l[k]=x at *
    generalize m[k]=y at *
    have q2:(0:Int)≤(k:Int):=by omega
    have q3:(k:Int)<(l.length:Int):=by omega
    have q5:(k:Int)<(m.length:Int):=by omega
    by_cases he:x=y
    ·subst he
     have hbb:(x==x)=true:=beq_self_eq_true _
     go_upto_region 6 with(fail)
     go_quiet (fail)
     go_wp2_with fail
     go_roundg (l.length-(k+1))
     case measure=>omega
     case rel=>
      refine⟨k+1,rfl,by omega,by go_num,HK.out.drewN _,mJ HD.out nq,?_⟩
      show _=_
      rw[List.take_add_one,List.take_add_one,HX.out.1,HX.out.2,HA.out]
    ·have hbb:(x==y)=false:=by rw[beq_eq_false_iff_ne];exact he
     have HE:=Lib.hid he
     clear he
     go_upto_region 6 with(fail)
     go_quiet (fail)
     go_wp2_with fail
     go_ret
     refine⟨aF ?_,mJ HD.out nq⟩
     symm
     rw[beq_eq_false_iff_ne]
     intro e
     subst e
     have h1:=HX.out.1
     rw[HX.out.2] at h1
     cases h1
     exact HE.out rfl
   ·have hk2:k=l.length:=by omega
    subst hk2
    go_wp2_with fail
    go_ret
    refine⟨aF ?_,HD.out⟩
    symm
    rw[beq_iff_eq]
    have h1:=HA.out
    rw[List.take_length,hlen,List.take_length] at h1
    exact h1
 ·have hb:(!(l.length:Int)==(m.length:Int))=true:=by simp;omega
  have hb2:(l.length==m.length)=false:=by simpa using hlen
  have hb3:decide (l.length=m.length)=false:=by simpa using hlen
  have hb4:(!(l.length==m.length))=true:=by simpa using hlen
  have HE:Hid ((l==m)=false):=by
   show _=_
   rw[beq_eq_false_iff_ne]
   intro e
   exact hlen (by rw[e])
  clear hlen
  go_enter Tryz.func95,Tryz.ntmps95
  go_wp2_with fail
  go_ret
  exact⟨aF HE.out.symm,0,rfl⟩
theorem I4:(Tryz.prog.info? 49).map (fun i=>(i.zero,i.size,i.bytes))=some (some (.agg #[.string ⟨#[]⟩,.int .i64 0,.string ⟨#[]⟩]),3,40):=by kernel_rfl
theorem U4(a:Option Addr)(n c:Nat)(w:World):Sem.run Tryz.prog (binOp BinOp.eql 26 (.slice a n c) (.slice none 0 0)) w=.ok (.bool a.isNone) w:=by
 cases a <;> kernel_rfl
theorem U5(a:Option Addr)(n c:Nat)(w:World):Sem.run Tryz.prog (binOp BinOp.eql 50 (.slice a n c) (.slice none 0 0)) w=.ok (.bool a.isNone) w:=by
 cases a <;> kernel_rfl
theorem Am(l:List Node):∀u∈ak l,u.oneCell'=true:=fun u hu=>by
 obtain⟨n,hn,hu⟩:=List.mem_flatMap.1 hu
 simp only[yS,List.mem_cons,List.not_mem_nil,or_false] at hu
 rcases hu with rfl|rfl|rfl <;> rfl
theorem Dz(l:List (List UInt8))(v:Value)(w:World)(hv:Rd w 1 v l.length (bf l))(hl:l.length≤1099511627776):
 Calls Tryz.prog 58 #[v] w fun e w'=>∃v',e=.returned v'∧Sl w' w.heap.size 9 1 v' l.length (bf l)∧Keeps Non w w':=by
 obtain⟨a0,c0,rfl,hc1,hc2⟩:=hv.shape
 obtain⟨i0,hi,hi0,hi1,hi2⟩:=info_parts lM
 cases a0 with
 |none=>
  have hl0:l=[]:=by
   rcases Nat.eq_zero_or_pos l.length with h|h
   ·exact List.eq_nil_of_length_eq_zero h
   ·obtain⟨b,o,c,hsh,-⟩:=hv.pos h
    cases hsh
  subst hl0
  clear hv
  have hnil:=fun w=>U4 none 0 c0 w
  simp only[Option.isNone] at hnil
  go_enter Tryz.func58,Tryz.ntmps58
  go_wp2_with fail
  go_ret
  exact⟨_,rfl,Sl.nil _ _ _ _,Keeps.refl _ _⟩
 |some a0=>
  have HV:=Lib.hid hv
  have hnil:=fun w=>U4 (some a0) l.length c0 w
  simp only[Option.isNone] at hnil
  have HN:=Lib.hid (Sl.dM w w.heap.size (Nat.le_refl _) 9 1 0 [] rfl (by simp[maxLen]))
  clear hv
  go_enter Tryz.func58,Tryz.ntmps58
  go_wp2_with (at_builtin;refine ay rfl _ _ 26 26 rfl 9 i0 _ 1 16 Tryz.underlying26 hi hi0 hi1 hi2 rfl w.heap.size _ _ _ rfl _ rfl l.length (bf l) ?c1 HN.out ?c2 ?c3 ?c4 ?_)
  case c1=>simp
  case c2=>exact Src.yY Tryz.underlying26 (HV.out.non ((Keeps.refl _ _).alloc _)) (Yf l)
  case c3=>unfold maxLen;omega
  case c4=>omega
  intro a1 c1 w1 hs1 hk1 lW hb1
  go_wp2_with fail
  go_ret
  refine⟨_,rfl,?_,?_⟩
  ·simpa using hs1
  ·exact Keeps.of_below ((((Kp.refl w.heap.size [9] w).alloc _).trans hk1).below (Nat.le_refl _)) fun k hk _=>hk
theorem DC(l:List Node)(v:Value)(w:World)(hv:Rd w 3 v l.length (ak l))(hl:l.length≤1099511627776):
 Calls Tryz.prog 57 #[v] w fun e w'=>∃v',e=.returned v'∧Sl w' w.heap.size 49 3 v' l.length (ak l)∧Keeps Non w w':=by
 obtain⟨a0,c0,rfl,hc1,hc2⟩:=hv.shape
 obtain⟨i0,hi,hi0,hi1,hi2⟩:=info_parts I4
 cases a0 with
 |none=>
  have hl0:l=[]:=by
   rcases Nat.eq_zero_or_pos l.length with h|h
   ·exact List.eq_nil_of_length_eq_zero h
   ·obtain⟨b,o,c,hsh,-⟩:=hv.pos h
    cases hsh
  subst hl0
  clear hv
  have hnil:=fun w=>U5 none 0 c0 w
  simp only[Option.isNone] at hnil
  go_enter Tryz.func57,Tryz.ntmps57
  go_wp2_with fail
  go_ret
  exact⟨_,rfl,Sl.nil _ _ _ _,Keeps.refl _ _⟩
 |some a0=>
  have HV:=Lib.hid hv
  have hnil:=fun w=>U5 (some a0) l.length c0 w
  simp only[Option.isNone] at hnil
  have HN:=Lib.hid (Sl.dM w w.heap.size (Nat.le_refl _) 49 3 0 [] rfl (by simp[maxLen]))
  clear hv
  go_enter Tryz.func57,Tryz.ntmps57
  go_wp2_with (at_builtin;refine ay rfl _ _ 50 50 rfl 49 i0 _ 3 40 Tryz.underlying50 hi hi0 hi1 hi2 rfl w.heap.size _ _ _ rfl _ rfl l.length (ak l) ?c1 HN.out ?c2 ?c3 ?c4 ?_)
  case c1=>simp
  case c2=>exact Src.yY Tryz.underlying50 (HV.out.non ((Keeps.refl _ _).alloc _)) (Am l)
  case c3=>unfold maxLen;omega
  case c4=>omega
  intro a1 c1 w1 hs1 hk1 lW hb1
  go_wp2_with fail
  go_ret
  refine⟨_,rfl,?_,?_⟩
  ·simpa using hs1
  ·exact Keeps.of_below ((((Kp.refl w.heap.size [49] w).alloc _).trans hk1).below (Nat.le_refl _)) fun k hk _=>hk
def trip(T:List (Value×Value×Value)):List Value:=T.flatMap fun x=>[x.1,x.2.1,x.2.2]
theorem o9:∀(T:List (Value×Value×Value)) (k:Nat) (x:Value×Value×Value),T[k]? =some x→(trip T)[k*3]? =some x.1∧(trip T)[k*3+1]? =some x.2.1∧(trip T)[k*3+2]? =some x.2.2
 | [],k,x,h=>by simp at h
 |y :: r,0,x,h=>by
  simp only[List.getElem?_cons_zero,Option.some.injEq] at h
  subst h
  exact⟨rfl,rfl,rfl⟩
 |y :: r,k+1,x,h=>by
  simp only[List.getElem?_cons_succ] at h
  obtain⟨h1,h2,h3⟩:=o9 r k x h
  have e:trip (y :: r)=y.1 :: y.2.1 :: y.2.2 :: trip r:=rfl
  rw[e,show(k+1)*3=k*3+1+1+1 by omega,show k*3+1+1+1+1=(k*3+1)+1+1+1 by omega,show k*3+1+1+1+2=(k*3+2)+1+1+1 by omega]
  simp only[List.getElem?_cons_succ]
  exact⟨h1,h2,h3⟩
theorem vP(A B:List (Value×Value×Value)):trip (A++B)=trip A++trip B:=by simp[trip]
theorem trip_take(T:List (Value×Value×Value))(k:Nat):(trip T).take (k*3)=trip (T.take k):=by
 induction T generalizing k with
 |nil=>simp[trip]
 |cons x r ih=>
  cases k with
  |zero=>simp[trip]
  |succ k=>
   have e:trip (x :: r)=x.1 :: x.2.1 :: x.2.2 :: trip r:=rfl
   rw[e,show(k+1)*3=k*3+1+1+1 by omega]
   simp only[List.take_succ_cons,ih]
   rfl
theorem GL(T:List (Value×Value×Value))(k:Nat):(trip T).drop (k*3)=trip (T.drop k):=by
 induction T generalizing k with
 |nil=>simp[trip]
 |cons x r ih=>
  cases k with
  |zero=>simp
  |succ k=>
   have e:trip (x :: r)=x.1 :: x.2.1 :: x.2.2 :: trip r:=rfl
   rw[e,show(k+1)*3=k*3+1+1+1 by omega]
   simp only[List.drop_succ_cons,ih]
theorem I5(l:List (List UInt8))(v:Value)(s:ByteArray)(w:World)(hv:Rd w 1 v l.length (bf l)):
 Calls Tryz.prog 103 #[v,.string s] w fun e w'=>e=.returned (.bool (decide (s.data.toList∈l)))∧w=w':=by
 obtain⟨a0,c0,rfl,hc1,hc2⟩:=hv.shape
 unfold maxLen at hc2
 have HV:=Lib.hid hv
 clear hv
 go_enter Tryz.func103,Tryz.ntmps103
 go_wp2_with fail
 go_loopg [9] l.length (fun gk iv wr=>∃k:Nat,gk=l.length-k∧k≤l.length∧iv=.int .i64 k∧w=wr∧Hid (s.data.toList∉l.take k))
 case atStart=>exact⟨0,rfl,Nat.zero_le _,rfl,rfl,by show ¬_;simp⟩
 case round=>
  obtain⟨k,rfl,hk,rfl,rfl,HA⟩:=hrel
  by_cases hlt:k<l.length
  ·obtain⟨b',o',c',hsh,-,-,-,kZ,hcc,-⟩:=HV.out.pos (by omega)
   cases hsh
   have d0:w.cell? ⟨b',o'+k,none⟩=some (sv l[k]):=(hcc k (by omega)).trans (dJ l k hlt)
   have HX:Hid (l[k]? =some l[k]∧l[k]∈l):=⟨List.getElem?_eq_getElem hlt,List.getElem_mem _⟩
   unfold sv at d0
   clear hcc
   generalize l[k]=x at *
   by_cases he:x=s.data.toList
   ·have hb:(s.toList==x)=true:=by rw[ByteArray.toList_eq,he];exact beq_self_eq_true _
    have HE:=Lib.hid he
    clear he
    go_wp2_with fail
    go_ret
    refine⟨aF ?_,rfl⟩
    rw[decide_eq_true (by rw[←HE.out];exact HX.out.2)]
   ·have hb:(s.toList==x)=false:=by
     rw[beq_eq_false_iff_ne,ByteArray.toList_eq];exact fun e=>he e.symm
    have HE:Hid (¬x=s.data.toList):=he
    clear he
    go_wp2_with fail
    go_roundg (l.length-(k+1))
    case measure=>omega
    case rel=>
     refine⟨k+1,rfl,by omega,by go_num,rfl,?_⟩
     show ¬_
     rw[List.take_add_one,HX.out.1,List.mem_append]
     rintro (h|h)
     ·exact HA.out h
     ·simp only[Option.toList_some,List.mem_singleton] at h
      exact HE.out h.symm
  ·have hk2:l.length=k:=by omega
   subst hk2
   go_wp2_with fail
   go_ret
   refine⟨aF ?_,rfl⟩
   have:=HA.out
   rw[List.take_length] at this
   rw[decide_eq_false this]
theorem Yx(L:List (List UInt8))(T:List (Value×Value×Value))(v:Value)(s:ByteArray)(w:World)(hl:L.length=T.length)(hT:∀(i:Nat) (x:Value×Value×Value),T[i]? =some x→(∃p,L[i]? =some p∧x.1=sv p)∧(∃a n c,x.2.1=.slice a n c)∧∃a n c,x.2.2=.slice a n c)(hv:Rd w 3 v T.length (trip T)):
 Calls Tryz.prog 98 #[v,.string s] w fun e w'=>e=.returned (.int .i64 (sS L s.data.toList))∧Keeps Non w w':=by
 obtain⟨a0,c0,rfl,hc1,hc2⟩:=hv.shape
 unfold maxLen at hc2
 have HV:=Lib.hid hv
 have HL:=Lib.hid hl
 have HT:=Lib.hid hT
 clear hv hl hT
 go_enter Tryz.func98,Tryz.ntmps98
 go_wp2_with fail
 go_loopg [9] T.length (fun gk iv wr=>∃k:Nat,gk=T.length-k∧k≤T.length∧iv=.int .i64 k∧Hid (Keeps Non w wr)∧Hid (sS L s.data.toList=sQ L s.data.toList (L.length-k)))
 case atStart=>exact⟨0,rfl,Nat.zero_le _,rfl,Keeps.refl _ _,rfl⟩
 case round=>
  obtain⟨k,rfl,hk,rfl,HK,HA⟩:=hrel
  by_cases hlt:k<T.length
  ·have QU:=HV.out.non HK.out
   obtain⟨b',o',c',hsh,-,-,-,kZ,hcc,-⟩:=QU.pos (by omega)
   cases hsh
   obtain⟨x,hx⟩:∃x,T[k]? =some x:=⟨_,List.getElem?_eq_getElem hlt⟩
   obtain⟨t1,t2,t3⟩:=o9 T k x hx
   obtain⟨⟨p,hp,hxp⟩,⟨y1,y2,y3,hy⟩,z1,z2,z3,hz⟩:=HT.out k x hx
   have d0:=(hcc (k*3) (by omega)).trans t1
   have d1:=(hcc (k*3+1) (by omega)).trans t2
   have d2:=(hcc (k*3+2) (by omega)).trans t3
   obtain⟨x0,x1,x2⟩:=x
   simp only at hxp d0 d1 d2 hy hz
   subst hxp hy hz
   rw[←Nat.add_assoc] at d1 d2
   unfold sv at d0
   have Kv:sQ L s.data.toList (L.length-k)=if p=s.data.toList then (k:Int) else sQ L s.data.toList (L.length-(k+1)):=by
    have:=HL.out
    rw[show L.length-k=(L.length-(k+1))+1 by omega,sQ,show L.length-(L.length-(k+1)+1)=k by omega,hp]
    simp
   have Kw:=Lib.hid Kv
   clear hcc Kv QU hx t1 t2 t3 hp
   by_cases he:p=s.data.toList
   ·have hb:(p==s.toList)=true:=by rw[ByteArray.toList_eq,he];exact beq_self_eq_true _
    have HE:=Lib.hid he
    clear he
    go_wp2_with fail
    go_ret
    exact⟨jU (by rw[HA.out,Kw.out,if_pos HE.out]),HK.out.alloc _⟩
   ·have hb:(p==s.toList)=false:=by
     rw[beq_eq_false_iff_ne,ByteArray.toList_eq];exact he
    have HE:Hid (¬p=s.data.toList):=he
    clear he
    go_wp2_with fail
    go_roundg (T.length-(k+1))
    case measure=>omega
    case rel=>exact⟨k+1,rfl,by omega,by go_num,HK.out.alloc _,by show _=_;rw[HA.out,Kw.out,if_neg HE.out]⟩
  ·have hk2:T.length=k:=by omega
   have hk3:L.length-k=0:=by have:=HL.out;omega
   have HZ:Hid (sS L s.data.toList= -1):=by show _=_;rw[HA.out,hk3];rfl
   clear hk3 HA
   subst hk2
   go_wp2_with fail
   go_ret
   exact⟨jU HZ.out.symm,HK.out⟩
theorem Q8(l m:List (List UInt8))(v u:Value)(w:World)(hv:Rd w 1 v l.length (bf l))(hu:Rd w 1 u m.length (bf m)):
 Calls Tryz.prog 125 #[v,u] w fun e w'=>e=.returned (.bool (l==m))∧∃n,w'=w.drewN n:=by
 obtain⟨a0,c0,rfl,hc1,hc2⟩:=hv.shape
 obtain⟨a1,c1,rfl,hc3,hc4⟩:=hu.shape
 unfold maxLen at hc2 hc4
 have HV:=Lib.hid hv
 have HU:=Lib.hid hu
 clear hv hu
 by_cases hlen:l.length=m.length
 ·have hb:(!(l.length:Int)==(m.length:Int))=false:=by rw[hlen];simp
  go_enter Tryz.func125,Tryz.ntmps125
  go_wp2_with fail
  go_loopg [13] l.length (fun gk iv wr=>∃k:Nat,gk=l.length-k∧k≤l.length∧iv=.int .i64 k∧Hid (Keeps Non w wr)∧Hid (∃n,wr=w.drewN n)∧Hid (l.take k=m.take k))
  case atStart=>exact⟨0,rfl,Nat.zero_le _,rfl,Keeps.refl _ _,⟨0,rfl⟩,rfl⟩
  case round=>
   obtain⟨k,rfl,hk,rfl,HK,HD,HA⟩:=hrel
   by_cases hlt:k<l.length
   ·have hlt2:k<m.length:=by omega
    obtain⟨b,off,cp,hsh,-,-,-,hbl,hc,-⟩:=(HV.out.non HK.out).pos (by omega)
    cases hsh
    obtain⟨b',off',cp',hsh,-,-,-,hbl',hc',-⟩:=(HU.out.non HK.out).pos (by omega)
    cases hsh
    have d0:wr.cell? ⟨b,off+k,none⟩=some (sv l[k]):=(hc k (by omega)).trans (dJ l k hlt)
    have d1:wr.cell? ⟨b',off'+k,none⟩=some (sv m[k]):=(hc' k (by omega)).trans (dJ m k hlt2)
    unfold sv at d0 d1
    have HX:Hid (l[k]? =some l[k]∧m[k]? =some m[k]):=⟨List.getElem?_eq_getElem hlt,List.getElem?_eq_getElem hlt2⟩
    clear hc hc'
    generalize l[k]=x at *
    generalize m[k]=y at *
    have q2:(0:Int)≤(k:Int):=by omega
    have q3:(k:Int)<(l.length:Int):=by omega
    have q5:(k:Int)<(m.length:Int):=by omega
    by_cases he:x=y
    ·subst he
     have hbb:(x==x)=true:=beq_self_eq_true _
     go_upto_region 6 with(fail)
     go_quiet (fail)
     go_wp2_with fail
     go_roundg (l.length-(k+1))
     case measure=>omega
     case rel=>
      refine⟨k+1,rfl,by omega,by go_num,HK.out.drewN _,mJ HD.out nq,?_⟩
      show _=_
      rw[List.take_add_one,List.take_add_one,HX.out.1,HX.out.2,HA.out]
    ·have hbb:(x==y)=false:=by rw[beq_eq_false_iff_ne];exact he
     have HE:=Lib.hid he
     clear he
     go_upto_region 6 with(fail)
     go_quiet (fail)
     go_wp2_with fail
     go_ret
     refine⟨aF ?_,mJ HD.out nq⟩
     symm
     rw[beq_eq_false_iff_ne]
     intro e
     subst e
     have h1:=HX.out.1
     rw[HX.out.2] at h1
     cases h1
     exact HE.out rfl
   ·have hk2:k=l.length:=by omega
    subst hk2
    go_wp2_with fail
    go_ret
    refine⟨aF ?_,HD.out⟩
    symm
    rw[beq_iff_eq]
    have h1:=HA.out
    rw[List.take_length,hlen,List.take_length] at h1
    exact h1
 ·have hb:(!(l.length:Int)==(m.length:Int))=true:=by simp;omega
  have hb2:(l.length==m.length)=false:=by simpa using hlen
  have hb3:decide (l.length=m.length)=false:=by simpa using hlen
  have hb4:(!(l.length==m.length))=true:=by simpa using hlen
  have HE:Hid ((l==m)=false):=by
   show _=_
   rw[beq_eq_false_iff_ne]
   intro e
   exact hlen (by rw[e])
  clear hlen
  go_enter Tryz.func125,Tryz.ntmps125
  go_wp2_with fail
  go_ret
  exact⟨aF HE.out.symm,0,rfl⟩
theorem wW(l m:List (List UInt8))(v u:Value)(w:World)(hv:Rd w 1 v l.length (bf l))(hu:Rd w 1 u m.length (bf m)):
 Calls Tryz.prog 65 #[v,u] w fun e w'=>e=.returned (.bool (l==m))∧∃n,w'=w.drewN n:=by
 obtain⟨a0,c0,rfl,hc1,hc2⟩:=hv.shape
 obtain⟨a1,c1,rfl,hc3,hc4⟩:=hu.shape
 unfold maxLen at hc2 hc4
 have HV:=Lib.hid hv
 have HU:=Lib.hid hu
 clear hv hu
 by_cases hlen:l.length=m.length
 ·have hb:(!(l.length:Int)==(m.length:Int))=false:=by rw[hlen];simp
  go_enter Tryz.func65,Tryz.ntmps65
  go_wp2_with fail
  go_loopg [13] l.length (fun gk iv wr=>∃k:Nat,gk=l.length-k∧k≤l.length∧iv=.int .i64 k∧Hid (Keeps Non w wr)∧Hid (∃n,wr=w.drewN n)∧Hid (l.take k=m.take k))
  case atStart=>exact⟨0,rfl,Nat.zero_le _,rfl,Keeps.refl _ _,⟨0,rfl⟩,rfl⟩
  case round=>
   obtain⟨k,rfl,hk,rfl,HK,HD,HA⟩:=hrel
   by_cases hlt:k<l.length
   ·have hlt2:k<m.length:=by omega
    obtain⟨b,off,cp,hsh,-,-,-,hbl,hc,-⟩:=(HV.out.non HK.out).pos (by omega)
    cases hsh
    obtain⟨b',off',cp',hsh,-,-,-,hbl',hc',-⟩:=(HU.out.non HK.out).pos (by omega)
    cases hsh
    have d0:wr.cell? ⟨b,off+k,none⟩=some (sv l[k]):=(hc k (by omega)).trans (dJ l k hlt)
    have d1:wr.cell? ⟨b',off'+k,none⟩=some (sv m[k]):=(hc' k (by omega)).trans (dJ m k hlt2)
    unfold sv at d0 d1
    have HX:Hid (l[k]? =some l[k]∧m[k]? =some m[k]):=⟨List.getElem?_eq_getElem hlt,List.getElem?_eq_getElem hlt2⟩
    clear hc hc'
    generalize l[k]=x at *
    generalize m[k]=y at *
    have q2:(0:Int)≤(k:Int):=by omega
    have q3:(k:Int)<(l.length:Int):=by omega
    have q5:(k:Int)<(m.length:Int):=by omega
    by_cases he:x=y
    ·subst he
     have hbb:(x==x)=true:=beq_self_eq_true _
     go_upto_region 6 with(fail)
     go_quiet (fail)
     go_wp2_with fail
     go_roundg (l.length-(k+1))
     case measure=>omega
     case rel=>
      refine⟨k+1,rfl,by omega,by go_num,HK.out.drewN _,mJ HD.out nq,?_⟩
      show _=_
      rw[List.take_add_one,List.take_add_one,HX.out.1,HX.out.2,HA.out]
    ·have hbb:(x==y)=false:=by rw[beq_eq_false_iff_ne];exact he
     have HE:=Lib.hid he
     clear he
     go_upto_region 6 with(fail)
     go_quiet (fail)
     go_wp2_with fail
     go_ret
     refine⟨aF ?_,mJ HD.out nq⟩
     symm
     rw[beq_eq_false_iff_ne]
     intro e
     subst e
     have h1:=HX.out.1
     rw[HX.out.2] at h1
     cases h1
     exact HE.out rfl
   ·have hk2:k=l.length:=by omega
    subst hk2
    go_wp2_with fail
    go_ret
    refine⟨aF ?_,HD.out⟩
    symm
    rw[beq_iff_eq]
    have h1:=HA.out
    rw[List.take_length,hlen,List.take_length] at h1
    exact h1
 ·have hb:(!(l.length:Int)==(m.length:Int))=true:=by simp;omega
  have hb2:(l.length==m.length)=false:=by simpa using hlen
  have hb3:decide (l.length=m.length)=false:=by simpa using hlen
  have hb4:(!(l.length==m.length))=true:=by simpa using hlen
  have HE:Hid ((l==m)=false):=by
   show _=_
   rw[beq_eq_false_iff_ne]
   intro e
   exact hlen (by rw[e])
  clear hlen
  go_enter Tryz.func65,Tryz.ntmps65
  go_wp2_with fail
  go_ret
  exact⟨aF HE.out.symm,0,rfl⟩
end Go.Proofs.YtdkogijdfgfpeaaGreatDoor

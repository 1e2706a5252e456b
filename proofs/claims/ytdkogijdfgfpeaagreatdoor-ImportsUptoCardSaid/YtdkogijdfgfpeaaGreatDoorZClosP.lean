/- Plain: what paths lead to, in order: complete, each once, references ahead. -/
import Derived.Test.YtdkogijdfgfpeaaGreatDoorZPackw
import Derived.Test.YtdkogijdfgfpeaaGreatDoorZMap
set_option linter.unusedVariables false
namespace Go.Proofs.YtdkogijdfgfpeaaGreatDoor
open Go Go.RowKit
theorem DR{L:aH}{a b:List (List UInt8)}(h:∀p,a.contains p=b.contains p):∀(f:Nat) (out:List (List UInt8)),qO L a f out=qO L b f out
 |0,_=>rfl
 |f+1,out=>by
  have hr:iK L a out=iK L b out:=by
   funext e
   unfold iK
   rw[h]
  unfold qO
  rw[hr]
  cases L.find? (iK L b out) with
  |none=>rfl
  |some e=>exact DR h f _
theorem sZ{L:aH}{all out:List (List UInt8)}{e:dI}:iK L all out e=true↔e.path∈all∧e.path∉out∧∀r∈e.refs,r=e.path∨r∈out:=by
 unfold iK
 simp only[Bool.and_eq_true,Bool.not_eq_true',List.all_eq_true,Bool.or_eq_true,beq_iff_eq,List.contains_iff_mem]
 constructor
 ·rintro ⟨⟨h1,h2⟩,h3⟩
  exact⟨h1,by simpa using h2,h3⟩
 ·rintro ⟨h1,h2,h3⟩
  exact⟨⟨h1,by simpa using h2⟩,h3⟩
structure Told(L:aH)(all out:List (List UInt8)):Prop where
 once:out.Nodup
 all:∀p∈out,p∈all
 ahead:∀a p b,out=a++p :: b→∃e∈L,e.path=p∧∀r∈e.refs,r=p∨r∈a
theorem Told.nil(L:aH)(all:List (List UInt8)):Told L all []:=⟨by simp,by simp,fun a p b h=>by simp at h⟩
theorem Ox{α:Type}{out a b:List α}{x p:α}(h:out++[x]=a++p :: b):(∃b',out=a++p :: b')∨(out=a∧x=p):=by
 rcases List.eq_nil_or_concat b with rfl|⟨b',y,rfl⟩
 ·right
  have:=List.append_inj' h (by simp)
  exact⟨this.1,by simpa using this.2⟩
 ·left
  rw[List.concat_eq_append] at h
  have e:out++[x]=(a++p :: b')++[y]:=by simpa using h
  exact⟨b',(List.append_inj' e (by simp)).1⟩
theorem Told.step{L:aH}{all out:List (List UInt8)}(h:Told L all out){e:dI}(he:e∈L)(hr:iK L all out e=true):Told L all (out++[e.path]):=by
 obtain⟨h1,h2,h3⟩:=sZ.1 hr
 refine⟨?_,fun p hp=>?_,fun a p b hs=>?_⟩
 ·rw[List.nodup_append]
  exact⟨h.once,by simp,fun a ha b hb e2=>h2 (by rw[List.mem_singleton] at hb;rw[←hb,←e2];exact ha)⟩
 ·rcases List.mem_append.1 hp with hp|hp
  ·exact h.all p hp
  ·obtain rfl:=List.mem_singleton.1 hp
   exact h1
 ·rcases Ox hs with⟨b',hb⟩|⟨rfl,rfl⟩
  ·exact h.ahead a p b' hb
  ·exact⟨e,he,rfl,h3⟩
theorem qy{α:Type} [DecidableEq α]:∀(a l:List α),a.Nodup→(∀x∈a,x∈l)→a.length≤l.length
 | [],_,_,_=>Nat.zero_le _
 |x :: a,l,hn,hs=>by
  obtain⟨h1,h2⟩:=List.nodup_cons.1 hn
  have hx:=hs x (List.mem_cons_self ..)
  have:=qy a (l.erase x) h2 fun y hy=>by
   have hne:y≠x:=fun e=>h1 (by rw[←e];exact hy)
   exact(List.mem_erase_of_ne hne).2 (hs y (List.mem_cons_of_mem _ hy))
  rw[List.length_erase_of_mem hx] at this
  have hpos:=List.length_pos_of_mem hx
  simp only[List.length_cons]
  omega
theorem kN{L:aH}{all out:List (List UInt8)}(h:Told L all out):out.length≤L.length:=by
 have hsub:∀p∈out,p∈L.map dI.path:=fun p hp=>by
  obtain⟨a,b,hab⟩:=List.append_of_mem hp
  obtain⟨e,he,oz,-⟩:=h.ahead a p b hab
  exact List.mem_map.2 ⟨e,he,oz⟩
 have:=qy _ _ h.once hsub
 simpa using this
theorem DT{L:aH}{all:List (List UInt8)}:∀(f:Nat) (out:List (List UInt8)),Told L all out→Told L all (qO L all f out)∧(L.length<f+out.length→L.find? (iK L all (qO L all f out))=none)
 |0,out,h=>⟨h,fun hl=>by have:=kN h;omega⟩
 |f+1,out,h=>by
  unfold qO
  cases hf:L.find? (iK L all out) with
  |none=>exact⟨h,fun _=>hf⟩
  |some e=>
   have hs:=h.step (List.mem_of_find?_eq_some hf) (List.find?_some hf)
   obtain⟨q1,q2⟩:=DT f _ hs
   exact⟨q1,fun hl=>q2 (by simp;omega)⟩
def jO(L:aH)(all:List (List UInt8)):List (List UInt8):=qO L all (L.length+1) []
theorem uz(L:aH)(all:List (List UInt8)):Told L all (jO L all):=(DT _ _ (Told.nil _ _)).1
theorem fG(m:bY)(k:List UInt8)(v:Value)(j:List UInt8):getM (jJ m k v) j=if j=k then some v else getM m j:=by
 unfold jJ
 cases hk:getM m k with
 |none=>
  simp only[Option.isSome_none,Bool.false_eq_true,if_false]
  unfold getM at *
  rw[List.find?_append]
  by_cases hj:j=k
  ·subst hj
   rw[if_pos rfl,Option.map_eq_none_iff.1 hk]
   simp
  ·rw[if_neg hj]
   have:([(k,v)]:bY).find? (fun x=>x.1==j)=none:=by
    rw[List.find?_eq_none]
    simp
    exact fun e=>hj e.symm
   rw[this]
   simp
 |some u=>
  simp only[Option.isSome_some,if_true]
  unfold Oj
  unfold getM at *
  rw[List.find?_map,Option.map_map]
  have h1:((fun x:List UInt8×Value=>x.1==j) ∘ fun x=>if x.1=k then (x.1,v) else x)=fun x=>x.1==j:=by
   funext x
   simp only[Function.comp]
   split <;> rfl
  rw[h1]
  by_cases hj:j=k
  ·subst hj
   rw[if_pos rfl]
   cases hf:m.find? (fun x=>x.1==j) with
   |none=>rw[hf] at hk;cases hk
   |some x=>
    have:=List.find?_some hf
    simp only[beq_iff_eq] at this
    simp[this]
  ·rw[if_neg hj]
   cases hf:m.find? (fun x=>x.1==j) with
   |none=>rfl
   |some x=>
    have:=List.find?_some hf
    simp only[beq_iff_eq] at this
    have h2:¬x.1=k:=fun e=>hj (this.symm.trans e)
    simp[h2]
def zY(n:Nat):Value:=.int .i64 n
def Vk(e:dI):Nat:=(e.refs.filter fun r=>r !=e.path).length
def tZ(N:bY)(k:List UInt8):Prop:=∃v,getM N k=some v
theorem Vl{N:bY}{k:List UInt8}:getM N k=none↔¬tZ N k:=by
 unfold tZ
 cases getM N k <;> simp
def KO(L:aH)(X:List UInt8→Prop):Prop:=∀e∈L,X e.path→∀r∈e.refs,X r
structure Grew(L:aH)(name:List UInt8)(N N':bY):Prop where
 old:∀k v,getM N k=some v→getM N' k=some v
 new:∀k,¬tZ N k→tZ N' k→∃e∈L,e.path=k∧getM N' k=some (zY (Vk e))∧∀r∈e.refs,tZ N' r
 least:∀X,KO L X→X name→∀k,tZ N' k→tZ N k∨X k
 it:tZ N' name
theorem Grew.same{L:aH}{name:List UInt8}{N:bY}(h:tZ N name):Grew L name N N:=⟨fun _ _ h=>h,fun k h1 h2=>absurd h2 h1,fun _ _ _ k h=>.inl h,h⟩
structure Going(L:aH)(e:dI)(N N2:bY)(j:Nat):Prop where
 fresh:¬tZ N e.path
 old:∀k v,getM N k=some v→getM N2 k=some v
 it:getM N2 e.path=some (zY ((e.refs.take j).filter fun r=>r !=e.path).length)
 new:∀k,k≠e.path→¬tZ N k→tZ N2 k→∃x∈L,x.path=k∧getM N2 k=some (zY (Vk x))∧∀r∈x.refs,tZ N2 r
 refs:∀r∈e.refs.take j,tZ N2 r
 least:∀X,KO L X→X e.path→∀k,tZ N2 k→tZ N k∨X k
theorem Going.start{L:aH}{e:dI}{N:bY}(h:getM N e.path=none):Going L e N (jJ N e.path (zY 0)) 0:=by
 have hf:=Vl.1 h
 refine⟨hf,fun k v hk=>?_,by rw[fG,if_pos rfl];simp,fun k hk hn hi=>?_,by simp,fun X _ hX k hi=>?_⟩
 ·rw[fG,if_neg (fun e2=>by rw[e2,h] at hk;cases hk)]
  exact hk
 ·obtain⟨v,hv⟩:=hi
  rw[fG,if_neg hk] at hv
  exact absurd ⟨v,hv⟩ hn
 ·by_cases hk:k=e.path
  ·rw[hk];exact .inr hX
  ·obtain⟨v,hv⟩:=hi
   rw[fG,if_neg hk] at hv
   exact .inl ⟨v,hv⟩
theorem Going.self{L:aH}{e:dI}{N N2:bY}{j:Nat}(h:Going L e N N2 j)(hr:e.refs[j]? =some e.path):Going L e N N2 (j+1):=by
 refine⟨h.fresh,h.old,?_,h.new,fun r hr2=>?_,h.least⟩
 ·rw[h.it,List.take_add_one,hr]
  simp
 ·rw[List.take_add_one,hr,List.mem_append] at hr2
  rcases hr2 with hr2|hr2
  ·exact h.refs r hr2
  ·simp only[Option.toList_some,List.mem_singleton] at hr2
   rw[hr2]
   exact⟨_,h.it⟩
theorem Going.step{L:aH}{e:dI}{N N2 N4:bY}{j:Nat}{r:List UInt8}(h:Going L e N N2 j)(he:e∈L)(hr:e.refs[j]? =some r)(hne:r≠e.path)
 (hg:Grew L r (jJ N2 e.path (zY (((e.refs.take j).filter fun r=>r !=e.path).length+1))) N4):Going L e N N4 (j+1):=by
 have hin:∀k,tZ N2 k→tZ N4 k:=fun k hk=>by
  by_cases hke:k=e.path
  ·exact⟨_,hg.old k _ (by rw[fG,if_pos hke])⟩
  ·obtain⟨v,hv⟩:=hk
   exact⟨v,hg.old k v (by rw[fG,if_neg hke];exact hv)⟩
 have acQ:∀k,tZ (jJ N2 e.path (zY (((e.refs.take j).filter fun r=>r !=e.path).length+1))) k→tZ N2 k:=fun k ⟨v,hv⟩=>by
  rw[fG] at hv
  by_cases hke:k=e.path
  ·rw[hke];exact⟨_,h.it⟩
  ·rw[if_neg hke] at hv
   exact⟨v,hv⟩
 refine⟨h.fresh,fun k v hk=>?_,?_,fun k hk hn hi=>?_,fun q hq=>?_,fun X hs hX k hi=>?_⟩
 ·have hke:k≠e.path:=fun e2=>h.fresh (by rw[←e2];exact⟨v,hk⟩)
  exact hg.old k v (by rw[fG,if_neg hke];exact h.old k v hk)
 ·rw[hg.old e.path _ (by rw[fG,if_pos rfl]),List.take_add_one,hr]
  have:(r !=e.path)=true:=by simpa using hne
  simp[this]
 ·by_cases hk2:tZ N2 k
  ·obtain⟨x,hx,hxp,hv,hxr⟩:=h.new k hk hn hk2
   exact⟨x,hx,hxp,hg.old k _ (by rw[fG,if_neg hk];exact hv),fun r hr=>hin r (hxr r hr)⟩
  ·exact hg.new k (fun h=>hk2 (acQ k h)) hi
 ·rw[List.take_add_one,hr,List.mem_append] at hq
  rcases hq with hq|hq
  ·exact hin q (h.refs q hq)
  ·simp only[Option.toList_some,List.mem_singleton] at hq
   rw[hq]
   exact hg.it
 ·have hXr:X r:=hs e he hX r (List.mem_of_getElem? hr)
  rcases hg.least X hs hXr k hi with h1|h1
  ·exact h.least X hs hX k (acQ k h1)
  ·exact .inr h1
theorem Going.done{L:aH}{e:dI}{N N2:bY}{j:Nat}(h:Going L e N N2 j)(he:e∈L)(hj:j=e.refs.length):Grew L e.path N N2:=by
 subst hj
 have h1:=h.it
 have h2:=h.refs
 rw[List.take_length] at h1 h2
 refine⟨h.old,fun k hn hi=>?_,h.least,⟨_,h1⟩⟩
 by_cases hk:k=e.path
 ·subst hk
  exact⟨e,he,rfl,h1,h2⟩
 ·exact h.new k hk hn hi
def yg(L:aH)(N:bY):Nat:=L.countP fun e=>(getM N e.path).isNone
theorem KP{L:aH}{N N':bY}(h:∀k v,getM N k=some v→tZ N' k):yg L N'≤yg L N:=by
 unfold yg
 refine List.countP_mono_left fun x _ hx=>?_
 cases hg:getM N x.path with
 |none=>rfl
 |some v=>
  obtain⟨u,hu⟩:=h _ _ hg
  rw[hu] at hx
  cases hx
theorem KQ{L:aH}{N N':bY}(h:∀k v,getM N k=some v→tZ N' k){e:dI}(he:e∈L)(hn:getM N e.path=none)(hi:tZ N' e.path):yg L N'+1≤yg L N:=by
 unfold yg
 induction L with
 |nil=>cases he
 |cons x r ih=>
  rw[List.countP_cons,List.countP_cons]
  have h1:r.countP (fun e=>(getM N' e.path).isNone)≤r.countP fun e=>(getM N e.path).isNone:=KP h
  rcases List.mem_cons.1 he with rfl|he
  ·obtain⟨v,hv⟩:=hi
   rw[hn,hv]
   simp
   omega
  ·have h2:=ih he
   have h3:(if (getM N' x.path).isNone=true then 1 else 0)≤(if (getM N x.path).isNone=true then 1 else 0):=by
    cases hg:getM N x.path with
    |none=>split <;> simp
    |some v=>
     obtain⟨u,hu⟩:=h _ _ hg
     rw[hu]
     simp
   omega
def Ji(a b:List UInt8):Prop:=Op.bytesLess b a=false
theorem zk(a:List UInt8):Ji a a:=iQ a
theorem vU{a b:List UInt8}(h:Op.bytesLess a b=true):Ji a b:=by
 unfold Ji
 cases hb:Op.bytesLess b a with
 |false=>rfl
 |true=>
  have:=mg h hb
  rw[iQ] at this
  cases this
theorem wZ{a b c:List UInt8}(h1:Ji a b)(h2:Ji b c):Ji a c:=by
 unfold Ji at *
 cases hc:Op.bytesLess c a with
 |false=>rfl
 |true=>
  exfalso
  by_cases hab:a=b
  ·rw[hab,h2] at hc;cases hc
  ·have agV:Op.bytesLess a b=true:=uO h1 fun e=>hab e.symm
   have:=mg hc agV
   rw[h2] at this
   cases this
def gT(l:List (List UInt8))(k:Nat):List UInt8:=l.getD k []
def swapT(l:List (List UInt8))(i j:Nat):List (List UInt8):=(l.set i (gT l j)).set j (gT l i)
theorem BD{l:List (List UInt8)}{k:Nat}(h:k<l.length):gT l k=l[k]:=by simp[gT,List.getD_eq_getElem?_getD,List.getElem?_eq_getElem h]
theorem fK(l:List (List UInt8))(i j:Nat):(swapT l i j).length=l.length:=by simp[swapT]
theorem CQ{l:List (List UInt8)}{i j:Nat}(hi:i<l.length)(hj:j<l.length)(k:Nat):gT (swapT l i j) k=if k=j then gT l i else if k=i then gT l j else gT l k:=by
 unfold gT swapT
 simp only[List.getD_eq_getElem?_getD,List.getElem?_set,List.length_set]
 by_cases h1:k=j
 ·subst h1
  simp[hj,gT]
 ·by_cases h2:k=i
  ·subst h2
   have:¬j=k:=fun e=>h1 e.symm
   simp[h1,this,hi,gT]
  ·have h3:¬j=k:=fun e=>h1 e.symm
   have h4:¬i=k:=fun e=>h2 e.symm
   simp[h1,h2,h3,h4]
theorem uD{l:List (List UInt8)}{i j:Nat}(hi:i<l.length)(hj:j<l.length):(swapT l i j).Perm l:=by
 have h:=Array.swap_perm (xs:=l.toArray) (i:=i) (j:=j) (by simpa using hi) (by simpa using hj)
 have h2:=Array.perm_iff_toList_perm.1 h
 have h3:(l.toArray.swap i j (by simpa using hi) (by simpa using hj)).toList=swapT l i j:=by
  unfold swapT
  rw[BD hi,BD hj]
  simp[Array.swap]
 rw[h3] at h2
 simpa using h2
def lT(l:List (List UInt8))(n:Nat):Prop:=∀k,k<n→0<k→Ji (gT l ((k-1) / 2)) (gT l k)
def uS(l:List (List UInt8))(n j:Nat):Prop:=(∀k,k<n→0<k→k≠j→Ji (gT l ((k-1) / 2)) (gT l k))∧∀c,c<n→0<c→(c-1) / 2=j→0<j→Ji (gT l ((j-1) / 2)) (gT l c)
theorem uS.zero{l:List (List UInt8)}{n:Nat}(h:uS l n 0):lT l n:=fun k hk h0=>h.1 k hk h0 (by omega)
theorem uS.done{l:List (List UInt8)}{n j:Nat}(h:uS l n j)(hl:Op.bytesLess (gT l j) (gT l ((j-1) / 2))=false):lT l n:=fun k hk h0=>by
 by_cases e:k=j
 ·subst e;exact hl
 ·exact h.1 k hk h0 e
theorem uS.step{l:List (List UInt8)}{j:Nat}(h:uS l l.length j)(hj:j<l.length)(h0:0<j)(hl:Op.bytesLess (gT l j) (gT l ((j-1) / 2))=true):uS (swapT l ((j-1) / 2) j) l.length ((j-1) / 2):=by
 obtain⟨i,hi⟩:∃i,i=(j-1) / 2:=⟨_,rfl⟩
 rw[←hi] at hl ⊢
 have hij:i<j:=by omega
 have hs:=CQ (l:=l) (i:=i) (j:=j) (by omega) hj
 have hle:=vU hl
 constructor
 ·intro k hk hk0 hki
  rw[hs,hs]
  by_cases e1:k=j
  ·subst e1
   rw[if_pos rfl,←hi,if_neg (by omega),if_pos rfl]
   exact hle
  ·rw[if_neg e1,if_neg hki]
   by_cases e2:(k-1) / 2=j
   ·rw[if_pos e2]
    have:=h.2 k hk hk0 e2 h0
    rw[←hi] at this
    exact this
   ·rw[if_neg e2]
    by_cases e3:(k-1) / 2=i
    ·rw[if_pos e3]
     have:=h.1 k hk hk0 e1
     rw[e3] at this
     exact wZ hle this
    ·rw[if_neg e3]
     exact h.1 k hk hk0 e1
 ·intro c hc hc0 hci hi0
  rw[hs,hs]
  rw[if_neg (by omega:¬(i-1) / 2=j),if_neg (by omega:¬(i-1) / 2=i)]
  have hii:=h.1 i (by omega) hi0 (by omega)
  by_cases e1:c=j
  ·rw[if_pos e1]
   exact hii
  ·rw[if_neg e1,if_neg (by omega:¬c=i)]
   have:=h.1 c hc hc0 e1
   rw[hci] at this
   exact wZ hii this
theorem uS.snoc{l:List (List UInt8)}(h:lT l l.length)(x:List UInt8):uS (l++[x]) (l++[x]).length l.length:=by
 have hg:∀k,k<l.length→gT (l++[x]) k=gT l k:=fun k hk=>by
  simp[gT,List.getD_eq_getElem?_getD,List.getElem?_append_left hk]
 constructor
 ·intro k hk h0 hkl
  simp only[List.length_append,List.length_singleton] at hk
  rw[hg k (by omega),hg _ (by omega)]
  exact h k (by omega) h0
 ·intro c hc h0 hcl
  simp only[List.length_append,List.length_singleton] at hc
  omega
def mD(l:List (List UInt8))(n i:Nat):Prop:=(∀k,k<n→0<k→(k-1) / 2≠i→Ji (gT l ((k-1) / 2)) (gT l k))∧∀k,k<n→0<k→(k-1) / 2=i→0<i→Ji (gT l ((i-1) / 2)) (gT l k)
theorem mD.leaf{l:List (List UInt8)}{n i:Nat}(h:mD l n i)(hi:n≤2*i+1):lT l n:=fun k hk h0=>h.1 k hk h0 (by omega)
def nP(l:List (List UInt8))(n i j:Nat):Prop:=(j=2*i+1∨j=2*i+2)∧j<n∧∀k,k<n→0<k→(k-1) / 2=i→Ji (gT l j) (gT l k)
theorem nP.one{l:List (List UInt8)}{n i:Nat}(h:2*i+1<n)(h2:n≤2*i+2):nP l n i (2*i+1):=⟨.inl rfl,h,fun k hk h0 hki=>by
 have:k=2*i+1:=by omega
 rw[this];exact zk _⟩
theorem nP.left{l:List (List UInt8)}{n i:Nat}(h:2*i+2<n)(hl:Op.bytesLess (gT l (2*i+2)) (gT l (2*i+1))=false):nP l n i (2*i+1):=⟨.inl rfl,by omega,fun k hk h0 hki=>by
 rcases (by omega:k=2*i+1∨k=2*i+2) with e|e
 ·rw[e];exact zk _
 ·rw[e];exact hl⟩
theorem nP.right{l:List (List UInt8)}{n i:Nat}(h:2*i+2<n)(hl:Op.bytesLess (gT l (2*i+2)) (gT l (2*i+1))=true):nP l n i (2*i+2):=⟨.inr rfl,h,fun k hk h0 hki=>by
 rcases (by omega:k=2*i+1∨k=2*i+2) with e|e
 ·rw[e];exact vU hl
 ·rw[e];exact zk _⟩
theorem mD.done{l:List (List UInt8)}{n i j:Nat}(h:mD l n i)(hc:nP l n i j)(hl:Op.bytesLess (gT l j) (gT l i)=false):lT l n:=fun k hk h0=>by
 by_cases e:(k-1) / 2=i
 ·rw[e]
  exact wZ hl (hc.2.2 k hk h0 e)
 ·exact h.1 k hk h0 e
theorem mD.step{l:List (List UInt8)}{n i j:Nat}(h:mD l n i)(hn:n≤l.length)(hc:nP l n i j)(hl:Op.bytesLess (gT l j) (gT l i)=true):mD (swapT l i j) n j:=by
 obtain⟨hj,hjn,hmin⟩:=hc
 have hs:=CQ (l:=l) (i:=i) (j:=j) (by omega) (by omega)
 have hle:=vU hl
 have hpj:(j-1) / 2=i:=by omega
 constructor
 ·intro k hk h0 hkj
  rw[hs,hs,if_neg hkj]
  by_cases e1:(k-1) / 2=i
  ·rw[if_pos e1]
   by_cases e2:k=j
   ·rw[if_pos e2];exact hle
   ·rw[if_neg e2,if_neg (by omega:¬k=i)]
    exact hmin k hk h0 e1
  ·rw[if_neg e1,if_neg (by omega:¬k=j)]
   by_cases e2:k=i
   ·rw[if_pos e2,e2]
    exact h.2 j hjn (by omega) hpj (by omega)
   ·rw[if_neg e2]
    exact h.1 k hk h0 e1
 ·intro k hk h0 hkj hj0
  rw[hs,hs,hpj,if_neg (by omega:¬i=j),if_pos rfl,if_neg (by omega:¬k=j),if_neg (by omega:¬k=i)]
  have:=h.1 k hk h0 (by omega)
  rw[hkj] at this
  exact this
theorem lT.least{l:List (List UInt8)}{n:Nat}(h:lT l n):∀k,k<n→Ji (gT l 0) (gT l k):=by
 intro k
 induction k using Nat.strongRecOn with
 |ind k ih=>
  intro hk
  rcases Nat.eq_zero_or_pos k with e|e
  ·rw[e];exact zk _
  ·exact wZ (ih ((k-1) / 2) (by omega) (by omega)) (h k hk e)
theorem mD.start{l:List (List UInt8)}{n:Nat}(h:lT l l.length)(hn:l.length=n+1):mD (swapT l 0 n) n 0:=by
 have hs:=CQ (l:=l) (i:=0) (j:=n) (by omega) (by omega)
 constructor
 ·intro k hk h0 hk2
  rw[hs,hs,if_neg (by omega:¬(k-1) / 2=n),if_neg hk2,if_neg (by omega:¬k=n),if_neg (by omega:¬k=0)]
  exact h k (by omega) h0
 ·intro k hk h0 hk2 h00
  omega
theorem lT.take{l:List (List UInt8)}{n:Nat}(h:lT l n)(hn:n≤l.length):lT (l.take n) (l.take n).length:=by
 have hg:∀k,k<n→gT (l.take n) k=gT l k:=fun k hk=>by
  simp[gT,List.getD_eq_getElem?_getD,hk]
 intro k hk h0
 rw[List.length_take] at hk
 rw[hg k (by omega),hg _ (by omega)]
 exact h k (by omega) h0
def mP(out:List (List UInt8))(e:dI):Nat:=(e.refs.filter fun r=>r !=e.path && !out.contains r).length
theorem Vm(e:dI):mP [] e=Vk e:=by simp[mP,Vk]
theorem Rn{out:List (List UInt8)}{e:dI}:mP out e=0↔∀r∈e.refs,r=e.path∨r∈out:=by
 unfold mP
 rw[List.length_eq_zero_iff,List.filter_eq_nil_iff]
 refine forall_congr' fun r=>forall_congr' fun _=>?_
 by_cases h1:r=e.path <;> by_cases h2:r∈out <;> simp[h1,h2]
theorem Oy{out:List (List UInt8)}{e:dI}{x:List UInt8}(h:x∉e.refs∨x=e.path):mP (out++[x]) e=mP out e:=by
 unfold mP
 congr 1
 refine List.filter_congr fun r hr=>?_
 by_cases h1:r=e.path
 ·simp[h1]
 ·have hne:r≠x:=fun e2=>by
   rcases h with h|h
   ·exact h (by rw[←e2];exact hr)
   ·exact h1 (e2.trans h)
  simp[hne]
theorem Vo{out:List (List UInt8)}{e:dI}{x:List UInt8}(hn:e.refs.Nodup)(hx:x∈e.refs)(hne:x≠e.path)(ho:x∉out):mP out e=mP (out++[x]) e+1:=by
 unfold mP
 have h1:(e.refs.filter fun r=>r !=e.path && !out.contains r).Nodup:=hn.filter _
 have h2:x∈e.refs.filter fun r=>r !=e.path && !out.contains r:=List.mem_filter.2 ⟨hx,by simp[hne,ho]⟩
 have h3:=List.length_erase_of_mem h2
 have h4:=List.length_pos_of_mem h2
 rw[List.Nodup.erase_eq_filter h1,List.filter_filter] at h3
 have h5:(e.refs.filter fun a=>a !=x&&(a !=e.path && !out.contains a))=e.refs.filter fun r=>r !=e.path && !(out++[x]).contains r:=by
  refine List.filter_congr fun r _=>?_
  by_cases h1:r=e.path <;> by_cases h2:r∈out <;> by_cases h3:r=x <;> simp[h1,h2,h3]
 rw[h5] at h3
 omega
theorem zl{a b:Nat}(h:zY a=zY b):a=b:=by
 unfold zY at h
 simp only[Value.int.injEq,true_and] at h
 omega
theorem bK.uniq{L:aH}(h:bK L){a b:dI}(ha:a∈L)(hb:b∈L)(he:a.path=b.path):a=b:=by
 have hr:=h.rise
 clear h
 induction L with
 |nil=>cases ha
 |cons x r ih=>
  obtain⟨h1,h2⟩:=List.pairwise_cons.1 hr
  rcases List.mem_cons.1 ha with ha2|ha2 <;> rcases List.mem_cons.1 hb with hb2|hb2
  ·rw[ha2,hb2]
  ·have:=h1 b hb2
   rw[←ha2,he,iQ] at this
   cases this
  ·have:=h1 a ha2
   rw[←hb2,he,iQ] at this
   cases this
  ·exact ih ha2 hb2 h2
theorem DU:∀{l:List (List UInt8)},dB l=true→l.Pairwise fun a b=>Op.bytesLess a b=true
 | [],_=>List.Pairwise.nil
 | [a],_=>List.pairwise_singleton _ _
 |a :: b :: r,h=>by
  rw[dB,Bool.and_eq_true] at h
  have ih:=DU h.2
  refine List.pairwise_cons.2 ⟨fun y hy=>?_,ih⟩
  rcases List.mem_cons.1 hy with rfl|hy
  ·exact h.1
  ·exact mg h.1 ((List.pairwise_cons.1 ih).1 y hy)
theorem Gj{l:List (List UInt8)}(h:dB l=true):l.Nodup:=(DU h).imp fun {a b} h e=>by
 rw[e,iQ] at h
 cases h
theorem bK.nodup{L:aH}(h:bK L){e:dI}(he:e∈L):e.refs.Nodup:=Gj (h.good e he).2.2
def Jj(L:aH)(K:List (List UInt8)):Prop:=∀k∈K,∃e∈L,e.path=k∧∀r∈e.refs,r∈K
structure BF(L:aH)(N:bY)(K:List (List UInt8))(cnt:dI→Nat):Prop where
 keys:N.map Prod.fst=K
 vals:∀e∈L,e.path∈K→getM N e.path=some (zY (cnt e))
theorem kF{N:bY}{k:List UInt8}:tZ N k↔k∈N.map Prod.fst:=by
 unfold tZ
 cases hg:getM N k with
 |none=>
  have:=getM_none.1 hg
  simp
  intro v hv
  exact this _ hv rfl
 |some v=>
  simp
  unfold getM at hg
  obtain⟨x,hx,-⟩:=Option.map_eq_some_iff.1 hg
  have h1:=List.mem_of_find?_eq_some hx
  have h2:=List.find?_some hx
  simp only[beq_iff_eq] at h2
  exact⟨x.2,by rw[←h2];exact h1⟩
theorem GZ{N:bY}{k:List UInt8}(v:Value)(h:k∈N.map Prod.fst):(jJ N k v).map Prod.fst=N.map Prod.fst:=by
 obtain⟨u,hu⟩:=kF.2 h
 rw[jJ,hu]
 simp only[Option.isSome_some,if_true]
 exact Kz N k v
structure yE(h:List (List UInt8))(P:List UInt8→Prop):Prop where
 once:h.Nodup
 mem:∀y,y∈h↔P y
theorem yE.perm{h h':List (List UInt8)}{P:List UInt8→Prop}(hh:yE h P)(hp:h'.Perm h):yE h' P:=⟨hp.nodup_iff.2 hh.once,fun y=>hp.mem_iff.trans (hh.mem y)⟩
theorem yE.congr{h:List (List UInt8)}{P Q:List UInt8→Prop}(hh:yE h P)(hp:∀y,P y↔Q y):yE h Q:=⟨hh.once,fun y=>(hh.mem y).trans (hp y)⟩
theorem yE.snoc{h h':List (List UInt8)}{P Q:List UInt8→Prop}{x:List UInt8}(hh:yE h P)(hp:h'.Perm (h++[x]))(hx:¬P x)(hq:∀y,Q y↔P y∨y=x):yE h' Q:=by
 refine yE.perm ⟨?_,fun y=>?_⟩ hp
 ·rw[List.nodup_append]
  exact⟨hh.once,by simp,fun a ha b hb e=>hx ((hh.mem x).1 (by rw[List.mem_singleton] at hb;rw[←hb,←e];exact ha))⟩
 ·rw[List.mem_append,hq,hh.mem,List.mem_singleton]
structure mF(L:aH)(K:List (List UInt8))(N:bY)(todo h:List (List UInt8)):Prop where
 map:BF L N K (mP [])
 heap:yE h fun y=>y∉todo∧getM N y=some (zY 0)
structure uF(L:aH)(K:List (List UInt8))(N:bY)(out h:List (List UInt8)):Prop where
 map:BF L N K (mP out)
 heap:yE h fun y=>y∉out∧getM N y=some (zY 0)
 told:Told L K out
 DV:jO L K=qO L K (L.length+1-out.length) out
structure iM(L:aH)(K:List (List UInt8))(N:bY)(out:List (List UInt8))(x:List UInt8)(todo h:List (List UInt8)):Prop where
 map:BF L N K (fun e=>if e.path∈todo then mP out e else mP (out++[x]) e)
 heap:yE h fun y=>y∉out++[x]∧getM N y=some (zY 0)
 told:Told L K (out++[x])
 DV:jO L K=qO L K (L.length+1-(out++[x]).length) (out++[x])
theorem mF.start{L:aH}{K:List (List UInt8)}{N:bY}(hm:BF L N K (mP [])):mF L K N K []:=⟨hm,by simp,fun y=>by
 simp only[List.not_mem_nil,false_iff]
 rintro ⟨h1,h2⟩
 exact h1 (by rw[←hm.keys];exact kF.1 ⟨_,h2⟩)⟩
theorem mF.pass{L:aH}{K:List (List UInt8)}{N:bY}{todo h:List (List UInt8)}{k:List UInt8}{n:Nat}(hs:mF L K N todo h)(hv:getM N k=some (zY n))(hn:n≠0):mF L K N (todo.filter fun x=>x !=k) h:=by
 refine⟨hs.map,hs.heap.congr fun y=>?_⟩
 constructor
 ·rintro ⟨h1,h2⟩
  exact⟨fun h3=>h1 (List.mem_filter.1 h3).1,h2⟩
 ·rintro ⟨h1,h2⟩
  refine⟨fun h3=>h1 (List.mem_filter.2 ⟨h3,?_⟩),h2⟩
  have:y≠k:=fun e=>by
   rw[e,hv] at h2
   exact hn (zl (Option.some.inj h2))
  simpa using this
theorem mF.push{L:aH}{K:List (List UInt8)}{N:bY}{todo h h':List (List UInt8)}{k:List UInt8}(hs:mF L K N todo h)(hk:k∈todo)(hv:getM N k=some (zY 0))(hp:h'.Perm (h++[k])):mF L K N (todo.filter fun x=>x !=k) h':=by
 refine⟨hs.map,hs.heap.snoc hp (fun h=>h.1 hk) fun y=>?_⟩
 constructor
 ·rintro ⟨h1,h2⟩
  by_cases e:y=k
  ·exact .inr e
  ·exact .inl ⟨fun h3=>h1 (List.mem_filter.2 ⟨h3,by simpa using e⟩),h2⟩
 ·rintro (⟨h1,h2⟩|rfl)
  ·exact⟨fun h3=>h1 (List.mem_filter.1 h3).1,h2⟩
  ·exact⟨fun h3=>by have:=(List.mem_filter.1 h3).2;simp at this,hv⟩
theorem mF.done{L:aH}{K:List (List UInt8)}{N:bY}{h:List (List UInt8)}(hs:mF L K N [] h):uF L K N [] h:=
 ⟨hs.map,hs.heap,Told.nil _ _,by simp[jO]⟩
theorem uF.ready{L:aH}{K:List (List UInt8)}{N:bY}{out h:List (List UInt8)}(hs:uF L K N out h){e:dI}(he:e∈L):iK L K out e=true↔e.path∈h:=by
 rw[sZ,hs.heap.mem,←Rn]
 constructor
 ·rintro ⟨h1,h2,h3⟩
  exact⟨h2,by rw[hs.map.vals e he h1,h3]⟩
 ·rintro ⟨h1,h2⟩
  have hk:e.path∈K:=by rw[←hs.map.keys];exact kF.1 ⟨_,h2⟩
  rw[hs.map.vals e he hk] at h2
  exact⟨hk,h1,zl (Option.some.inj h2)⟩
theorem uF.done{L:aH}{K:List (List UInt8)}{N:bY}{out:List (List UInt8)}(hs:uF L K N out []):out=jO L K:=by
 rw[hs.DV]
 have hf:L.find? (iK L K out)=none:=List.find?_eq_none.2 fun e he hr=>by
  have:=(hs.ready he).1 hr
  cases this
 obtain⟨f,hf2⟩:∃f,L.length+1-out.length=f+1:=⟨L.length-out.length,by have:=kN hs.told;omega⟩
 rw[hf2,qO,hf]
theorem Oz{L:aH}(hr:L.Pairwise fun a b=>Op.bytesLess a.path b.path=true){p:dI→Bool}{e:dI}(he:e∈L)(hp:p e=true)(hl:∀y∈L,p y=true→Ji e.path y.path):L.find? p=some e:=by
 obtain⟨a,b,rfl⟩:=List.append_of_mem he
 refine List.find?_eq_some_iff_append.2 ⟨hp,a,b,rfl,fun y hy=>?_⟩
 cases hpy:p y with
 |false=>rfl
 |true=>
  have h1:=hl y (List.mem_append.2 (.inl hy)) hpy
  have h2:=(List.pairwise_append.1 hr).2.2 y hy e (List.mem_cons_self ..)
  unfold Ji at h1
  rw[h2] at h1
  cases h1
theorem uF.pop{L:aH}{K:List (List UInt8)}{N:bY}{out h h':List (List UInt8)}{x:List UInt8}(hs:uF L K N out h)(hok:bK L)(hk:Jj L K)(hp:(h'++[x]).Perm h)(hl:∀y∈h,Ji x y):iM L K N out x K h':=by
 have hx:x∈h:=hp.mem_iff.1 (by simp)
 obtain⟨hxo,hxv⟩:=(hs.heap.mem x).1 hx
 have hxk:x∈K:=by rw[←hs.map.keys];exact kF.1 ⟨_,hxv⟩
 obtain⟨e,he,rfl,-⟩:=hk x hxk
 have hrd:=(hs.ready he).2 hx
 have hf:L.find? (iK L K out)=some e:=Oz hok.rise he hrd fun y hy hyr=>hl _ ((hs.ready hy).1 hyr)
 have hnd:=hp.nodup_iff.2 hs.heap.once
 refine⟨⟨hs.map.keys,fun y hy hyk=>by rw[if_pos hyk];exact hs.map.vals y hy hyk⟩,⟨(List.nodup_append.1 hnd).1,fun y=>?_⟩,hs.told.step he hrd,?_⟩
 ·have h1:=hp.mem_iff (a:=y)
  rw[hs.heap.mem,List.mem_append,List.mem_singleton] at h1
  constructor
  ·intro hy
   obtain⟨h2,h3⟩:=h1.1 (.inl hy)
   refine⟨fun h4=>?_,h3⟩
   rcases List.mem_append.1 h4 with h4|h4
   ·exact h2 h4
   ·rw[List.mem_singleton] at h4
    exact(List.nodup_append.1 hnd).2.2 y hy e.path (by simp) h4
  ·rintro ⟨h2,h3⟩
   rcases h1.2 ⟨fun h4=>h2 (List.mem_append.2 (.inl h4)),h3⟩ with h4|h4
   ·exact h4
   ·exact absurd (by rw[h4];simp) h2
 ·rw[hs.DV]
  obtain⟨f,hf2⟩:∃f,L.length+1-out.length=f+1:=⟨L.length-out.length,by have:=kN hs.told;omega⟩
  rw[hf2,qO,hf]
  simp only[List.length_append,List.length_singleton]
  congr 1
  omega
theorem iM.done{L:aH}{K:List (List UInt8)}{N:bY}{out h:List (List UInt8)}{x:List UInt8}(hs:iM L K N out x [] h):uF L K N (out++[x]) h:=
 ⟨⟨hs.map.keys,fun y hy hyk=>by have:=hs.map.vals y hy hyk;rwa [if_neg (by simp)] at this⟩,hs.heap,hs.told,hs.DV⟩
theorem iM.pass{L:aH}{K:List (List UInt8)}{N:bY}{out h todo:List (List UInt8)}{x:List UInt8}(hs:iM L K N out x todo h)(hok:bK L){e:dI}(he:e∈L)(hx:x∉e.refs∨x=e.path):iM L K N out x (todo.filter fun y=>y !=e.path) h:=by
 refine⟨⟨hs.map.keys,fun y hy hyk=>?_⟩,hs.heap,hs.told,hs.DV⟩
 rw[hs.map.vals y hy hyk]
 by_cases hye:y.path=e.path
 ·have:=hok.uniq hy he hye
  subst this
  rw[Oy hx]
  simp
 ·have h1:(y.path∈todo.filter fun z=>z !=e.path)↔y.path∈todo:=by
   rw[List.mem_filter]
   constructor
   ·exact fun h=>h.1
   ·exact fun h=>⟨h,by simpa using hye⟩
  by_cases h2:y.path∈todo
  ·rw[if_pos h2,if_pos (h1.2 h2)]
  ·rw[if_neg h2,if_neg (fun h=>h2 (h1.1 h))]
theorem iM.fresh{L:aH}{K:List (List UInt8)}{N:bY}{out h todo:List (List UInt8)}{x:List UInt8}(hs:iM L K N out x todo h):x∉out:=fun hx=>by
 have:=(List.nodup_append.1 hs.told.once).2.2 x hx x (by simp)
 exact this rfl
theorem iM.val{L:aH}{K:List (List UInt8)}{N:bY}{out h todo:List (List UInt8)}{x:List UInt8}(hs:iM L K N out x todo h)(hok:bK L){e:dI}(he:e∈L)(hk:e.path∈K)(ht:e.path∈todo)(hx:x∈e.refs)(hne:x≠e.path):
 getM N e.path=some (zY (mP (out++[x]) e+1)):=by
 rw[hs.map.vals e he hk,if_pos ht,Vo (hok.nodup he) hx hne hs.fresh]
theorem iM.stepM{L:aH}{K:List (List UInt8)}{N:bY}{out h todo:List (List UInt8)}{x:List UInt8}(hs:iM L K N out x todo h)(hok:bK L){e:dI}(he:e∈L)(hk:e.path∈K):
 BF L (jJ N e.path (zY (mP (out++[x]) e))) K (fun y=>if y.path∈(todo.filter fun y=>y !=e.path) then mP out y else mP (out++[x]) y):=by
 refine⟨by rw[GZ _ (by rw[hs.map.keys];exact hk)];exact hs.map.keys,fun y hy hyk=>?_⟩
 rw[fG]
 by_cases hye:y.path=e.path
 ·have:=hok.uniq hy he hye
  subst this
  simp
 ·rw[if_neg hye,hs.map.vals y hy hyk]
  have h1:(y.path∈todo.filter fun z=>z !=e.path)↔y.path∈todo:=by
   rw[List.mem_filter]
   constructor
   ·exact fun h=>h.1
   ·exact fun h=>⟨h,by simpa using hye⟩
  by_cases h2:y.path∈todo
  ·rw[if_pos h2,if_pos (h1.2 h2)]
  ·rw[if_neg h2,if_neg (fun h=>h2 (h1.1 h))]
theorem iM.less{L:aH}{K:List (List UInt8)}{N:bY}{out h todo:List (List UInt8)}{x:List UInt8}(hs:iM L K N out x todo h)(hok:bK L){e:dI}(he:e∈L)(hk:e.path∈K)(ht:e.path∈todo)(hx:x∈e.refs)(hne:x≠e.path)
 (hz:mP (out++[x]) e≠0):iM L K (jJ N e.path (zY (mP (out++[x]) e))) out x (todo.filter fun y=>y !=e.path) h:=by
 have hv:=hs.val hok he hk ht hx hne
 refine⟨hs.stepM hok he hk,hs.heap.congr fun y=>?_,hs.told,hs.DV⟩
 rw[fG]
 by_cases hye:y=e.path
 ·subst hye
  rw[if_pos rfl,hv]
  constructor
  ·rintro ⟨-,h2⟩
   exact absurd (zl (Option.some.inj h2)) (by omega)
  ·rintro ⟨-,h2⟩
   exact absurd (zl (Option.some.inj h2)) hz
 ·rw[if_neg hye]
theorem iM.push{L:aH}{K:List (List UInt8)}{N:bY}{out h h' todo:List (List UInt8)}{x:List UInt8}(hs:iM L K N out x todo h)(hok:bK L){e:dI}(he:e∈L)(hk:e.path∈K)(ht:e.path∈todo)(hx:x∈e.refs)(hne:x≠e.path)
 (hz:mP (out++[x]) e=0) (hp:h'.Perm (h++[e.path])):iM L K (jJ N e.path (zY (mP (out++[x]) e))) out x (todo.filter fun y=>y !=e.path) h':=by
 have hv:=hs.val hok he hk ht hx hne
 have hno:e.path∉out++[x]:=fun hm=>by
  rcases List.mem_append.1 hm with hm|hm
  ·obtain⟨a,b,hab⟩:=List.append_of_mem hm
   obtain⟨e',he',oz,hr⟩:=hs.told.ahead a e.path (b++[x]) (by rw[hab];simp)
   have:=hok.uniq he' he oz
   subst this
   rcases hr x hx with h1|h1
   ·exact hne h1
   ·exact hs.fresh (by rw[hab];exact List.mem_append.2 (.inl h1))
  ·rw[List.mem_singleton] at hm
   exact hne hm.symm
 refine⟨hs.stepM hok he hk,hs.heap.snoc hp (fun h=>?_) fun y=>?_,hs.told,hs.DV⟩
 ·rw[hv] at h
  exact absurd (zl (Option.some.inj h.2)) (by omega)
 ·rw[fG]
  by_cases hye:y=e.path
  ·subst hye
   rw[if_pos rfl,hz]
   simp[hno]
  ·rw[if_neg hye]
   simp[hye]
theorem Jj.len{L:aH}{K:List (List UInt8)}(h:Jj L K)(hn:K.Nodup):K.length≤L.length:=by
 have:=qy K (L.map dI.path) hn fun k hk=>by
  obtain⟨e,he,oz,-⟩:=h k hk
  exact List.mem_map.2 ⟨e,he,oz⟩
 simpa using this
theorem yE.len{h K:List (List UInt8)}{P:List UInt8→Prop}(hh:yE h P)(hp:∀y,P y→y∈K):h.length≤K.length:=qy h K hh.once fun y hy=>hp y ((hh.mem y).1 hy)
theorem BF.mem{L:aH}{N:bY}{K:List (List UInt8)}{cnt:dI→Nat}(h:BF L N K cnt){y:List UInt8}{v:Value}(hv:getM N y=some v):y∈K:=by
 rw[←h.keys]
 exact kF.1 ⟨v,hv⟩
theorem Qo(out:List (List UInt8))(e:dI):mP out e≤e.refs.length:=List.length_filter_le _ _
theorem rM{l:List (List UInt8)}{k:List UInt8}(h:k∈l):(l.filter fun x=>x !=k).length<l.length:=by
 rw[List.length_filter_lt_length_iff_exists]
 exact⟨k,h,by simp⟩
end Go.Proofs.YtdkogijdfgfpeaaGreatDoor

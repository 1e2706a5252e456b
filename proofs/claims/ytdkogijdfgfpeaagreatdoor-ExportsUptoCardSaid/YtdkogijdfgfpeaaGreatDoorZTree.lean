/- Plain: the program's answer is the reference's: which node is wrong first; the bytes of a tree. No program in sight. -/
import Derived.Test.YtdkogijdfgfpeaaGreatDoorZRefD
import Derived.Test.YtdkogijdfgfpeaaGreatDoorZMem
set_option linter.unusedVariables false
namespace Go.Proofs.YtdkogijdfgfpeaaGreatDoor
open Go Go.RowKit
theorem QY:nameB []=false:=by simp[nameB,qF,Bj]
theorem vM(l:List UInt8)(c:UInt8):∀k:Nat,(iT l c k<0∧∀i,i<k→l[i]? ≠some c)∨(∃j:Nat,iT l c k=j∧j<k∧l[j]? =some c∧∀i,j<i→i<k→l[i]? ≠some c)
 |0=>.inl ⟨by simp[iT],fun i h=>by omega⟩
 |k+1=>by
  unfold iT
  split
  ·rename_i h
   exact .inr ⟨k,rfl,by omega,h,fun i h1 h2=>by omega⟩
  ·rename_i h
   rcases vM l c k with⟨h1,h2⟩|⟨j,h1,h2,h3,h4⟩
   ·refine .inl ⟨h1,fun i hi=>?_⟩
    by_cases e:i=k
    ·rw[e];exact h
    ·exact h2 i (by omega)
   ·refine .inr ⟨j,h1,by omega,h3,fun i h5 h6=>?_⟩
    by_cases e:i=k
    ·rw[e];exact h
    ·exact h4 i h5 (by omega)
theorem uj(p:List UInt8):((aK p)=([],p)∧(47:UInt8)∉p)∨(p=(aK p).1++47 :: (aK p).2∧(47:UInt8)∉(aK p).2):=by
 unfold aK lastIdx
 rcases vM p 47 p.length with⟨h1,h2⟩|⟨j,h1,h2,h3,h4⟩
 ·left
  rw[if_neg (by omega)]
  refine⟨rfl,fun hm=>?_⟩
  obtain⟨i,hi,he⟩:=List.getElem_of_mem hm
  exact h2 i hi (by rw[List.getElem?_eq_getElem hi,he])
 ·right
  rw[h1,if_pos (by omega)]
  simp only[Int.toNat_natCast]
  refine⟨?_,fun hm=>?_⟩
  ·have e:p[j]=47:=by
    rw[List.getElem?_eq_getElem h2] at h3;exact Option.some.inj h3
   conv=>lhs;rw[←List.take_append_drop j p,List.drop_eq_getElem_cons h2,e]
  ·obtain⟨i,hi,he⟩:=List.getElem_of_mem hm
   rw[List.length_drop] at hi
   refine h4 (j+1+i) (by omega) (by omega) ?_
   rw[List.getElem_drop] at he
   rw[List.getElem?_eq_getElem (by omega),he]
theorem uo(d n:List UInt8)(h:(47:UInt8)∉n):aK (d++47 :: n)=(d,n):=by
 rcases uj (d++47 :: n) with⟨_,h2⟩|⟨h1,h2⟩
 ·exact absurd (by simp) h2
 ·generalize hg:aK (d++47 :: n)=q at *
  obtain⟨d',n'⟩:=q
  simp only at h1 h2
  have key:∀(d d' n n':List UInt8),(47:UInt8)∉n→(47:UInt8)∉n'→d++47 :: n=d'++47 :: n'→d=d'∧n=n':=by
   intro d
   induction d with
   |nil=>
    intro d' n n' h h2 he
    cases d' with
    |nil=>simp at he;exact⟨rfl,he⟩
    |cons x r=>
     simp at he
     exact absurd (by rw[he.2];simp) h
   |cons x r ih=>
    intro d' n n' h h2 he
    cases d' with
    |nil=>
     simp at he
     exact absurd (by rw[←he.2];simp) h2
    |cons y r'=>
     simp at he
     obtain⟨e1,e2⟩:=ih r' n n' h h2 he.2
     exact⟨by rw[he.1,e1],e2⟩
  obtain⟨e1,e2⟩:=key d d' n n' h h2 h1
  rw[e1,e2]
theorem N9(n:List UInt8)(h:(47:UInt8)∉n):aK n=([],n):=by
 rcases uj n with⟨h1,_⟩|⟨h1,h2⟩
 ·exact h1
 ·exact absurd (by rw[h1];simp) h
theorem qK(d n:List UInt8)(h:(47:UInt8)∉n):aK (bg d n)=(d,n):=by
 unfold bg
 split
 ·rename_i e;rw[e];exact N9 n h
 ·exact uo d n h
theorem qL(p:List UInt8)(h:p.head? ≠some 47):p=bg (aK p).1 (aK p).2∧(47:UInt8)∉(aK p).2:=by
 rcases uj p with⟨h1,h2⟩|⟨h1,h2⟩
 ·rw[h1];exact⟨rfl,h2⟩
 ·refine⟨?_,h2⟩
  unfold bg
  rw[if_neg]
  ·exact h1
  ·intro e
   rw[e] at h1
   rw[h1] at h
   exact h rfl
theorem yV(d n:List UInt8)(h:n≠[]):bg d n≠[]:=by
 unfold bg;split
 ·exact h
 ·simp
theorem yx(d n:List UInt8)(hn:n≠[])(h:(47:UInt8)∉n):lV (bg d n)=lV d+1:=by
 have h0:n.countP (· == 47)=0:=by rw[List.countP_eq_zero];intro x hx e;rw[beq_iff_eq] at e;exact h (e ▸ hx)
 unfold lV
 rw[if_neg (yV d n hn)]
 unfold bg
 split
 ·simp[h0]
 ·rw[List.countP_append,List.countP_cons,h0];simp;omega
theorem qw(p d:List UInt8):aQ p d=true↔(d=[]∧p≠[])∨(d≠[]∧∃r,p=d++47 :: r):=by
 unfold aQ
 by_cases h:d=[]
 ·simp[h]
 ·simp only[h,if_false,false_and,false_or,ne_eq,not_false_eq_true,true_and]
  simp only[Bool.and_eq_true,decide_eq_true_eq,beq_iff_eq]
  constructor
  ·rintro ⟨h1,h2⟩
   refine⟨p.drop (d.length+1),?_⟩
   conv=>lhs;rw[←List.take_append_drop (d.length+1) p,h2]
   simp
  ·rintro ⟨r,rfl⟩
   refine⟨by simp,?_⟩
   rw[List.take_append,List.take_of_length_le (by omega)]
   simp
theorem eX(d n:List UInt8)(hn:n≠[]):aQ (bg d n) d=true:=by
 rw[qw]
 unfold bg
 by_cases h:d=[]
 ·simp[h,hn]
 ·simp only[h,if_false];exact .inr ⟨h,n,rfl⟩
theorem jL{a b c:List UInt8}(h1:aQ a b=true)(h2:aQ b c=true):aQ a c=true:=by
 rw[qw] at *
 rcases h1 with⟨rfl,h1⟩|⟨h1,r,rfl⟩
 ·rcases h2 with⟨_,h2⟩|⟨h2,r,h3⟩
  ·exact absurd rfl h2
  ·simp at h3
 ·rcases h2 with⟨rfl,h2⟩|⟨h2,q,rfl⟩
  ·exact .inl ⟨rfl,by simp⟩
  ·exact .inr ⟨h2,q++47 :: r,by simp⟩
theorem dX{p d:List UInt8}(h:aQ p d=true):d.length<p.length:=by
 rw[qw] at h
 rcases h with⟨rfl,h⟩|⟨_,r,rfl⟩
 ·exact List.length_pos_iff.2 h
 ·simp
theorem yA(d n q:List UInt8)(hn:n≠[])(h47:(47:UInt8)∉n)(hq:q≠[]):aQ (bg d n) q=true↔q=d∨aQ d q=true:=by
 constructor
 ·intro h
  rw[qw] at h
  rcases h with⟨h,_⟩|⟨_,r,hr⟩
  ·exact absurd h hq
  ·by_cases h2:(47:UInt8)∈r
   ·right
    have e:aK (bg d n)=(q++47 :: (aK r).1,(aK r).2):=by
     rcases uj r with⟨_,h3⟩|⟨h3,h4⟩
     ·exact absurd h2 h3
     ·rw[hr]
      conv=>lhs;rw[h3]
      rw[show q++47 :: ((aK r).1++47 :: (aK r).2)=(q++47 :: (aK r).1)++47 :: (aK r).2 by simp]
      exact uo _ _ h4
    rw[qK d n h47] at e
    rw[qw]
    exact .inr ⟨hq,(aK r).1,(Prod.mk.inj e).1⟩
   ·left
    have e:aK (bg d n)=(q,r):=by rw[hr];exact uo q r h2
    rw[qK d n h47] at e
    exact(Prod.mk.inj e).1.symm
 ·rintro (rfl|h)
  ·exact eX _ _ hn
  ·exact jL (eX d n hn) h
theorem nN:∀(x y:List UInt8),Op.bytesLess x y=decide (x<y)
 | [],[]=>by simp[Op.bytesLess]
 |_ :: _,[]=>by simp[Op.bytesLess]
 | [],_ :: _=>by simp[Op.bytesLess]
 |a :: x,b :: y=>by
  simp only[Op.bytesLess,nN x y]
  rw[Bool.eq_iff_iff]
  simp[List.cons_lt_cons_iff]
theorem Ah{a b:List UInt8}:pY a b=false↔b<a:=by
 unfold pY
 rw[nN]
 by_cases h:b<a
 ·have h1:¬a<b:=List.lt_asymm h
  have h2:¬a=b:=fun e=>by rw[e] at h;exact List.lt_irrefl _ h
  simp[h,h1,h2]
 ·simp only[h,iff_false]
  simp only[Bool.or_eq_false_iff,decide_eq_false_iff_not,beq_eq_false_iff_ne,not_and,ne_eq,Decidable.not_not]
  intro h1
  exact List.le_antisymm (List.not_lt.1 h) (List.not_lt.1 h1)
theorem Du{a b:List UInt8}:pY a b=true↔¬b<a:=by
 rw[←Ah];cases pY a b <;> simp
theorem Oa{n:List UInt8}(h:n≠[]):[]<n:=by
 cases n with
 |nil=>exact absurd rfl h
 |cons a r=>exact List.nil_lt_cons ..
def Bo(dir name:List UInt8)(o:Option Bool)(y:Node):Option Bool:=
 match o with
 |none=>none
 |some i=>if y.path=dir∧y.kind=4 then some true
  else if i=false then some false
  else if aQ y.path dir=false then none
  else if (aK y.path).1=dir∧pY name (aK y.path).2=true then none
  else some true
def seen(dir name:List UInt8)(ys:List Node):Option Bool:=ys.foldl (Bo dir name) (some false)
theorem seen_none(dir name:List UInt8)(ys:List Node):ys.foldl (Bo dir name) none=none:=by
 induction ys with
 |nil=>rfl
 |cons y r ih=>exact ih
theorem mG(dir name:List UInt8)(i:Bool)(y:Node):Bo dir name (some i) y=if y.path=dir∧y.kind=4 then some true
 else if i=false then some false
 else if aQ y.path dir=false then none
 else if (aK y.path).1=dir∧pY name (aK y.path).2=true then none
 else some true:=rfl
theorem pG(dir name:List UInt8):∀(ys:List Node) (i:Bool),jw dir name ys i=(ys.foldl (Bo dir name) (some i)==some true)
 | [],i=>by cases i <;> rfl
 |y :: r,i=>by
  rw[List.foldl_cons,mG,jw]
  by_cases h1:y.path=dir∧y.kind=4
  ·rw[if_pos h1,if_pos h1];exact pG dir name r true
  ·rw[if_neg h1,if_neg h1]
   by_cases h2:i=false
   ·rw[if_pos h2,if_pos h2];exact pG dir name r false
   ·rw[if_neg h2,if_neg h2]
    obtain rfl:i=true:=by cases i <;> simp at h2 ⊢
    by_cases h3:aQ y.path dir=false
    ·rw[if_pos h3,if_pos h3,seen_none];rfl
    ·rw[if_neg h3,if_neg h3]
     by_cases h4:(aK y.path).1=dir∧pY name (aK y.path).2=true
     ·rw[if_pos h4,if_pos h4,seen_none];rfl
     ·rw[if_neg h4,if_neg h4];exact pG dir name r true
theorem wU(dir name:List UInt8)(ys:List Node)(x:Node):seen dir name (ys++[x])=Bo dir name (seen dir name ys) x:=by
 unfold seen;rw[List.foldl_append];rfl
def fE:Opens→Prop
 | []=>True
 | [o]=>o.1=[]
 |o :: e :: r=>(∃n,n≠[]∧(47:UInt8)∉n∧o.1=bg e.1 n)∧fE (e :: r)
theorem fE.tail{o:List UInt8×List UInt8}{r:Opens}(h:fE (o :: r)):fE r:=by
 cases r with
 |nil=>trivial
 |cons e r=>exact h.2
theorem fE.drop{a r:Opens}(h:fE (a++r)):fE r:=by
 induction a with
 |nil=>exact h
 |cons o a ih=>exact ih h.tail
theorem fE.below{o:List UInt8×List UInt8}:∀{r:Opens},fE (o :: r)→∀e∈r,aQ o.1 e.1=true
 | [],_,e,h=>by simp at h
 |e :: r,h,e',h'=>by
  obtain⟨⟨n,hn,_,ho⟩,h2⟩:=h
  have hb:aQ o.1 e.1=true:=by rw[ho];exact eX _ _ hn
  rcases List.mem_cons.1 h' with rfl|h'
  ·exact hb
  ·exact jL hb (fE.below h2 e' h')
theorem fE.depth:∀{o:List UInt8×List UInt8} {r:Opens},fE (o :: r)→lV o.1=r.length
 |o,[],h=>by rw[show o.1=[] from h];rfl
 |o,e :: r,h=>by
  obtain⟨⟨n,hn,h4,ho⟩,h2⟩:=h
  rw[ho,yx _ _ hn h4,fE.depth h2];rfl
theorem fE.last{o p:List UInt8×List UInt8}{r:Opens}(h:fE (o :: r))(e:p.1=o.1):fE (p :: r):=by
 cases r with
 |nil=>exact e.trans h
 |cons q r=>exact⟨by rw[e];exact h.1,h.2⟩
theorem fE.find{rs:Opens}{d l:List UInt8}(h:fE rs)(hm:(d,l)∈rs):∃pre r,rs=pre++(d,l) :: r∧(∀o∈pre,aQ o.1 d=true)∧rs.dropWhile (fun o=>o.1 !=d)=(d,l) :: r:=by
 obtain⟨pre,r,rfl⟩:=List.append_of_mem hm
 have hb:∀o∈pre,aQ o.1 d=true:=by
  intro o ho
  obtain⟨p1,p2,rfl⟩:=List.append_of_mem ho
  rw[List.append_assoc] at h
  exact fE.below h.drop (d,l) (by simp)
 refine⟨pre,r,rfl,hb,?_⟩
 rw[List.dropWhile_append_of_pos]
 ·rw[List.dropWhile_cons];simp
 ·intro o ho
  have:=dX (hb o ho)
  simp only[bne_iff_ne,ne_eq]
  intro e
  rw[e] at this
  omega
theorem UQ(p:List UInt8)(st:Opens):(bV p st).1=true↔∃l r,st.reverse.dropWhile (fun o=>o.1 !=(aK p).1)=((aK p).1,l) :: r∧nameB (aK p).2=true∧p.head? ≠some 47∧(aK p).2>l:=by
 unfold bV mX
 simp only[List.getLast?_reverse]
 cases hd:st.reverse.dropWhile (fun o=>o.1 !=(aK p).1) with
 |nil=>simp
 |cons o r=>
  have ho:o.1=(aK p).1:=by
   have:=List.head_dropWhile_not (fun o:List UInt8×List UInt8=>o.1 !=(aK p).1) (l:=st.reverse) (by rw[hd];simp)
   simp only[hd,List.head_cons] at this
   simpa using this
  simp only[List.head?_cons]
  by_cases hc:(!nameB (aK p).2||p.head? == some 47||pY (aK p).2 o.2)=true
  ·rw[if_pos hc]
   simp only[Bool.false_eq_true,false_iff,not_exists,not_and]
   intro l r' he h1 h2 h3
   cases he
   simp only[Bool.or_eq_true,Bool.not_eq_true',beq_iff_eq] at hc
   rcases hc with(hc|hc)|hc
   ·rw[h1] at hc;cases hc
   ·exact h2 hc
   ·rw[Du] at hc;exact hc h3
  ·rw[if_neg hc]
   simp only[true_iff]
   simp only[Bool.or_eq_true,Bool.not_eq_true',beq_iff_eq,not_or,Bool.not_eq_false,Bool.not_eq_true] at hc
   exact⟨o.2,r,by rw[←ho],hc.1.1,hc.1.2,Ah.1 hc.2⟩
theorem vN{p:List UInt8}{st:Opens}(h:(bV p st).1=true){l:List UInt8}{r:Opens}(hd:st.reverse.dropWhile (fun o=>o.1 !=(aK p).1)=((aK p).1,l) :: r):(bV p st).2=(((aK p).1,(aK p).2) :: r).reverse:=by
 unfold bV mX at h ⊢
 simp only[List.getLast?_reverse,hd,List.head?_cons] at h ⊢
 split
 ·rename_i hc;rw[if_pos hc] at h;cases h
 ·simp
structure Inv(ys:List Node)(rs:Opens):Prop where
 chain:fE rs
 ina:∀d n,n≠[]→(seen d n ys=some true↔∃l,(d,l)∈rs∧l<n)
 out:∀d n,seen d n ys=some false↔∀y∈ys,¬(y.path=d∧y.kind=4)
 mem:∀o∈rs,∃y∈ys,y.path=o.1∧y.kind=4
 dead:∀y∈ys,y.path≠[]→seen (aK y.path).1 (aK y.path).2 ys=none
theorem UR(d n:List UInt8)(o:Option Bool)(y:Node)(h:o≠some false):Bo d n o y≠some false:=by
 unfold Bo
 match o,h with
 |none,_=>simp
 |some false,h=>exact absurd rfl h
 |some true,_=>simp only;split <;> (try simp)
theorem J7{ys:List Node}(h:∀d n,seen d n ys=some false↔∀y∈ys,¬(y.path=d∧y.kind=4))(x:Node)(d n:List UInt8):seen d n (ys++[x])=some false↔∀y∈ys++[x],¬(y.path=d∧y.kind=4):=by
 rw[wU]
 constructor
 ·intro hs y hy
  have h0:seen d n ys=some false:=by
   apply Decidable.byContradiction
   intro hc
   exact UR d n _ x hc hs
  rcases List.mem_append.1 hy with hy|hy
  ·exact(h d n).1 h0 y hy
  ·obtain rfl:=List.mem_singleton.1 hy
   rw[h0,mG] at hs
   intro hc
   rw[if_pos hc] at hs
   cases hs
 ·intro hs
  rw[(h d n).2 (fun y hy=>hs y (List.mem_append_left _ hy)),mG,if_neg (hs x (by simp)),if_pos rfl]
theorem Inv.root(x:Node)(hx:x.path=[]):Inv [x] (fM x []).reverse:=by
 refine⟨?_,?_,J7 (ys:=[]) (fun d n=>by simp[seen]) x,?_,?_⟩
 ·unfold fM;split <;> simp[fE,hx]
 ·intro d n hn
  show Bo d n (some false) x=some true↔_
  rw[mG]
  by_cases h4:x.kind=4
  ·unfold fM
   rw[if_pos h4]
   simp only[hx,h4,and_true,List.nil_append,List.reverse_singleton,List.mem_singleton,Prod.mk.injEq]
   constructor
   ·intro h
    split at h
    ·rename_i e
     exact⟨[],⟨e.symm,rfl⟩,Oa hn⟩
    ·simp at h
   ·rintro ⟨l,⟨rfl,rfl⟩,_⟩
    simp
  ·unfold fM
   rw[if_neg h4]
   simp[h4]
 ·unfold fM
  split
  ·rename_i h4;simp[hx,h4]
  ·simp
 ·intro y hy hne
  obtain rfl:=List.mem_singleton.1 hy
  exact absurd hx hne
structure Step(p:List UInt8)(rs:Opens)(l:List UInt8)(r:Opens):Prop where
 find:rs.dropWhile (fun o=>o.1 !=(aK p).1)=((aK p).1,l) :: r
 name:nameB (aK p).2=true
 head:p.head? ≠some 47
 lt:l<(aK p).2
theorem jk{n:List UInt8}(h:nameB n=true):n≠[]:=by
 rintro rfl;rw[QY] at h;cases h
theorem Inv.step{ys:List Node}{rs:Opens}(h:Inv ys rs){x:Node}{l:List UInt8}{r:Opens}(hs:Step x.path rs l r):
 Inv (ys++[x]) ((if x.kind=4 then [(x.path,[])] else [])++((aK x.path).1,(aK x.path).2) :: r):=by
 obtain⟨hj,h47⟩:=qL x.path hs.head
 have hn:=jk hs.name
 have hdm:((aK x.path).1,l)∈rs:=by
  have:=hs.find
  exact(List.dropWhile_sublist _).subset (by rw[this];simp)
 obtain⟨pre,r',hrs,hpre,hf⟩:=h.chain.find hdm
 obtain rfl:r'=r:=by rw[hs.find] at hf;exact(List.cons.inj hf).2.symm
 have hxne:x.path≠[]:=by rw[hj];exact yV _ _ hn
 have hin:seen (aK x.path).1 (aK x.path).2 ys=some true:=(h.ina _ _ hn).2 ⟨l,hdm,hs.lt⟩
 have hchain:fE (((aK x.path).1,(aK x.path).2) :: r'):=by
  have:fE (((aK x.path).1,l) :: r'):=by
   have:=h.chain
   rw[hrs] at this
   exact this.drop
  exact this.last rfl
 have hlt:=hs.lt
 have aay:∀y∈ys,y.path≠x.path:=by
  intro y hy e
  have:=h.dead y hy (by rw[e];exact hxne)
  rw[e,hin] at this
  cases this
 generalize hD:aK x.path=D at *
 obtain⟨dir,name⟩:=D
 simp only at *
 refine⟨?_,?_,J7 h.out x,?_,?_⟩
 ·split
  ·exact⟨⟨name,hn,h47,hj⟩,hchain⟩
  ·exact hchain
 ·intro d' n' hn'
  rw[wU]
  by_cases hpush:x.path=d'∧x.kind=4
  ·-- it was out
   have ho:seen d' n' ys=some false:=(h.out d' n').2 (fun y hy hc=>aay y hy (by rw[hc.1,hpush.1]))
   rw[ho,mG,if_pos hpush]
   simp only[true_iff]
   refine⟨[],?_,Oa hn'⟩
   rw[if_pos hpush.2,hpush.1]
   simp
  ·-- what stands on the new stack under d' stood on the old one,with a name that is not above
   have hold:(∃l',(d',l')∈(if x.kind=4 then [(x.path,([]:List UInt8))] else [])++(dir,name) :: r'∧l'<n')↔(d'=dir∧name<n')∨(∃l',(d',l')∈r'∧l'<n'):=by
    constructor
    ·rintro ⟨l',hm,hl⟩
     rcases List.mem_append.1 hm with hm|hm
     ·split at hm
      ·rename_i h4
       have:=List.mem_singleton.1 hm
       cases this
       exact absurd ⟨rfl,h4⟩ hpush
      ·simp at hm
     ·rcases List.mem_cons.1 hm with hm|hm
      ·cases hm;exact .inl ⟨rfl,hl⟩
      ·exact .inr ⟨l',hm,hl⟩
    ·rintro (⟨rfl,hl⟩|⟨l',hm,hl⟩)
     ·exact⟨name,by simp,hl⟩
     ·exact⟨l',by simp[hm],hl⟩
   rw[hold]
   have himp:((d'=dir∧name<n')∨(∃l',(d',l')∈r'∧l'<n'))→seen d' n' ys=some true:=by
    rintro (⟨rfl,hl⟩|⟨l',hm,hl⟩)
    ·exact(h.ina _ _ hn').2 ⟨l,hdm,List.lt_trans hlt hl⟩
    ·exact(h.ina _ _ hn').2 ⟨l',by rw[hrs];simp[hm],hl⟩
   cases hse:seen d' n' ys with
   |none=>
    constructor
    ·intro hc;cases hc
    ·intro hc;rw[himp hc] at hse;cases hse
   |some i=>
    rw[mG,if_neg hpush]
    cases i with
    |false=>
     constructor
     ·intro hc;simp at hc
     ·intro hc;rw[himp hc] at hse;cases hse
    |true=>
     rw[if_neg (by decide)]
     obtain⟨l0,hm0,hl0⟩:=(h.ina _ _ hn').1 hse
     rw[hrs] at hm0
     rcases List.mem_append.1 hm0 with hm0|hm0
     ·-- it is over
      have hb:aQ d' dir=true:=hpre _ hm0
      have hd':d'≠[]:=by
       intro e;rw[e] at hb;have:=dX hb;simp at this
      have hnb:aQ x.path d'=false:=by
       rw[Bool.eq_false_iff]
       intro hc
       rw[hj,yA dir name d' hn h47 hd'] at hc
       rcases hc with rfl|hc
       ·exact absurd (dX hb) (by omega)
       ·have h1:=dX hb
        have h2:=dX hc
        omega
      rw[if_pos hnb]
      constructor
      ·intro hc;cases hc
      ·rintro (⟨rfl,hl⟩|⟨l',hm,hl⟩)
       ·exact absurd (dX hb) (by omega)
       ·have h2:=fE.below hchain (d',l') hm
        have h1:=dX hb
        have h2:=dX h2
        simp only at h2
        omega
     ·have hbel:aQ x.path d'=true:=by
       rw[hj]
       rcases List.mem_cons.1 hm0 with hm0|hm0
       ·cases hm0;exact eX _ _ hn
       ·exact jL (eX _ _ hn) (fE.below hchain (d',l0) hm0)
      rw[if_neg (by rw[hbel];decide),hD]
      simp only
      rcases List.mem_cons.1 hm0 with hm0|hm0
      ·cases hm0
       have hnr:¬∃l',(dir,l')∈r'∧l'<n':=by
        rintro ⟨l',hm,_⟩
        have:=dX (fE.below hchain (dir,l') hm)
        simp only at this
        omega
       simp only[hnr,or_false,true_and]
       by_cases hle:pY n' name=true
       ·rw[if_pos hle]
        constructor
        ·intro hc;cases hc
        ·intro hc;exact absurd hc (Du.1 hle)
       ·rw[if_neg hle]
        simp only[true_iff]
        exact Ah.1 (by simpa using hle)
      ·have hne:dir≠d':=by
        intro e
        have:=dX (fE.below hchain (d',l0) hm0)
        simp only at this
        rw[e] at this
        omega
       rw[if_neg (fun hc=>hne hc.1)]
       simp only[true_iff]
       exact .inr ⟨l0,hm0,hl0⟩
 ·intro o ho
  rcases List.mem_append.1 ho with ho|ho
  ·split at ho
   ·rename_i h4
    obtain rfl:=List.mem_singleton.1 ho
    exact⟨x,by simp,rfl,h4⟩
   ·simp at ho
  ·have:∃l',(o.1,l')∈rs:=by
    rcases List.mem_cons.1 ho with rfl|ho
    ·exact⟨l,by rw[hrs];simp⟩
    ·exact⟨o.2,by rw[hrs];simp[ho]⟩
   obtain⟨l',hm⟩:=this
   obtain⟨y,hy,he⟩:=h.mem _ hm
   exact⟨y,by simp[hy],he⟩
 ·intro y hy hne
  rcases List.mem_append.1 hy with hy|hy
  ·rw[wU,h.dead y hy hne];rfl
  ·obtain rfl:=List.mem_singleton.1 hy
   rw[hD]
   simp only
   rw[wU,hin,mG]
   have h1:¬(y.path=dir∧y.kind=4):=by
    rintro ⟨e,_⟩
    have h1:=dX (eX dir name hn)
    rw[←hj,e] at h1
    omega
   rw[if_neg h1,if_neg (by decide)]
   split
   ·rfl
   ·rw[if_pos]
    rw[hD]
    exact⟨rfl,Du.2 (List.lt_irrefl _)⟩
theorem sN{p:List UInt8}{st:Opens}:(bV p st).1=true↔∃l r,Step p st.reverse l r:=by
 rw[UQ]
 constructor
 ·rintro ⟨l,r,h1,h2,h3,h4⟩;exact⟨l,r,h1,h2,h3,h4⟩
 ·rintro ⟨l,r,h1,h2,h3,h4⟩;exact⟨l,r,h1,h2,h3,h4⟩
theorem UU(x:Node)(st:Opens)(q:List UInt8×List UInt8)(r:Opens):(fM x ((q :: r).reverse)).reverse=(if x.kind=4 then [(x.path,[])] else [])++q :: r:=by
 unfold fM;split <;> simp
theorem Inv.come{ys:List Node}{st:Opens}(h:Inv ys st.reverse){x:Node}(hc:(bV x.path st).1=true):Inv (ys++[x]) (fM x (bV x.path st).2).reverse:=by
 obtain⟨l,r,hs⟩:=sN.1 hc
 rw[vN hc hs.find,UU _ st]
 exact h.step hs
theorem Dv{ys:List Node}{st:Opens}(h:Inv ys st.reverse)(x:Node):
 ((bV x.path st).1=true∧(bV x.path st).2.length≤5)↔¬(x.path=[]∨x.path.head? =some 47∨je (aK x.path).2=false∨5<lV x.path)∧jw (aK x.path).1 (aK x.path).2 ys false=true:=by
 rw[ug]
 constructor
 ·rintro ⟨hc,hl⟩
  obtain⟨l,r,hs⟩:=sN.1 hc
  rw[vN hc hs.find] at hl
  obtain⟨hj,h47⟩:=qL x.path hs.head
  have hn:=jk hs.name
  have hdm:((aK x.path).1,l)∈st.reverse:=by
   have:=hs.find
   exact(List.dropWhile_sublist _).subset (by rw[this];simp)
  have hch:fE (((aK x.path).1,l) :: r):=by
   obtain⟨pre,r',hrs,hpre,hf⟩:=h.chain.find hdm
   have:=h.chain
   rw[hrs] at this
   obtain rfl:r'=r:=by have:=hs.find;rw[hf] at this;exact(List.cons.inj this).2
   exact this.drop
  have hd:=hch.depth
  simp only at hd
  refine⟨?_,?_⟩
  ·rintro (h1|h1|h1|h1)
   ·rw[hj] at h1;exact yV _ _ hn h1
   ·exact hs.head h1
   ·rw[hs.name] at h1;cases h1
   ·rw[hj,yx _ _ hn h47,hd] at h1
    simp at hl
    omega
  ·rw[pG]
   show(seen _ _ ys==some true)=true
   rw[(h.ina _ _ hn).2 ⟨l,hdm,hs.lt⟩]
   rfl
 ·rintro ⟨h1,h2⟩
  simp only[not_or,Bool.not_eq_false] at h1
  obtain⟨hp,hh,hnm,hd⟩:=h1
  have hn:=jk hnm
  obtain⟨hj,h47⟩:=qL x.path hh
  rw[pG] at h2
  have h3:seen (aK x.path).1 (aK x.path).2 ys=some true:=eq_of_beq h2
  obtain⟨l,hm,hlt⟩:=(h.ina _ _ hn).1 h3
  obtain⟨pre,r,hrs,hpre,hf⟩:=h.chain.find hm
  have hs:Step x.path st.reverse l r:=⟨hf,hnm,hh,hlt⟩
  have hc:=sN.2 ⟨l,r,hs⟩
  refine⟨hc,?_⟩
  rw[vN hc hs.find]
  have hch:fE (((aK x.path).1,l) :: r):=by
   have:=h.chain
   rw[hrs] at this
   exact this.drop
  have hd2:=hch.depth
  simp only at hd2
  rw[hj,yx _ _ hn h47,hd2] at hd
  simp
  omega
theorem Ob{ys:List Node}{st:Opens}(h:Inv ys st.reverse)(x:Node)(l:List Node)(k:Nat)(hk:0<k)(acz:k≤30)(hl:l.take k=ys):
 (bP k x st=none∧eU l k x=false)∨(k<30∧∃st',bP k x st=some st'∧eU l k x=true∧Inv (ys++[x]) (fM x st').reverse):=by
 unfold bP eU
 by_cases h0:k=30∨aZ x.kind x.data=false
 ·left
  rw[if_pos h0,if_pos (h0.imp (fun h=>by omega) id)]
  exact⟨rfl,rfl⟩
 ·have hk3:¬k=30:=fun e=>h0 (.inl e)
  rw[if_neg h0,if_neg (show ¬(30≤k∨aZ x.kind x.data=false) from fun h=>h0 (h.imp (fun h=>by omega) id)),if_neg (show ¬k=0 by omega),if_neg (show ¬k=0 by omega),hl]
  by_cases hc:(bV x.path st).1=true∧(bV x.path st).2.length≤5
  ·right
   refine⟨by omega,_,if_pos hc,?_,h.come hc.1⟩
   obtain⟨h1,h2⟩:=(Dv h x).1 hc
   rw[if_neg h1,h2]
  ·left
   refine⟨if_neg hc,?_⟩
   split
   ·rfl
   ·rename_i h1
    rw[Bool.eq_false_iff]
    intro h2
    exact hc ((Dv h x).2 ⟨h1,h2⟩)
theorem J8(l:List Node):∀(r ys:List Node) (k:Nat) (st:Opens),l=ys++r→ys.length=k→0<k→k≤30→Inv ys st.reverse→bT r k st=IX l r k
 | [],ys,k,st,hl,hk,h0,h30,h=>by
   unfold bT IX
   rw[if_neg]
   intro e
   rw[e] at hl
   have:ys=[]:=(List.append_eq_nil_iff.1 hl.symm).1
   rw[this] at hk
   simp at hk
   omega
 |x :: r,ys,k,st,hl,hk,h0,h30,h=>by
  unfold bT IX
  have ht:l.take k=ys:=by rw[hl,←hk];simp
  rcases Ob h x l k h0 h30 ht with⟨h1,h2⟩|⟨h3,st',h1,h2,h4⟩
  ·rw[h1,h2];rfl
  ·rw[h1,h2]
   exact J8 l r (ys++[x]) (k+1) (fM x st') (by rw[hl];simp) (by simp;omega) (by omega) (by omega) h4
theorem UW(l:List Node):bH l=kM l:=by
 unfold bH kM
 cases l with
 |nil=>rfl
 |cons x r=>
  rw[if_neg (by simp),bT,IX]
  unfold bP eU
  by_cases h0:(0=30∨aZ x.kind x.data=false)
  ·rw[if_pos h0,if_pos (h0.imp (fun h=>by omega) id)];rfl
  ·rw[if_neg h0,if_neg (show ¬(30≤0∨aZ x.kind x.data=false) from fun h=>h0 (h.imp (fun h=>by omega) id)),if_pos rfl,if_pos rfl]
   by_cases hp:x.path=[]
   ·rw[if_pos ⟨hp,by simp⟩]
    simp only[hp,decide_true,if_true]
    exact J8 (x :: r) r [x] 1 (fM x []) rfl rfl (by omega) (by omega) (Inv.root x hp)
   ·rw[if_neg (fun h=>hp h.1)]
    simp[hp]
def rG:List Node→Prop
 |y :: z :: r=>(y.kind≠4→aQ z.path y.path=false)∧rG (z :: r)
 |_=>True
def Ai(x:Node):Prop:=x.kind=1∨x.kind=2∨x.kind=3∨x.kind=4
theorem Dw{k:Int}{s:List UInt8}(h:aZ k s=true):k=1∨k=2∨k=3∨k=4:=by
 unfold aZ at h
 by_cases h3:k=3
 ·omega
 ·rw[if_neg h3] at h
  by_cases h4:k=4
  ·omega
  ·rw[if_neg h4] at h
   by_cases h1:k=1∨k=2
   ·omega
   ·rw[if_neg h1] at h;cases h
theorem Step.facts{p:List UInt8}{st:Opens}{l:List UInt8}{r:Opens}(hs:Step p st.reverse l r)(hch:fE st.reverse):
 p≠[]∧p=bg (aK p).1 (aK p).2∧(47:UInt8)∉(aK p).2∧(aK p).2≠[]∧((aK p).1,l)∈st∧fE (((aK p).1,l) :: r):=by
 obtain⟨hj,h47⟩:=qL p hs.head
 have hn:=jk hs.name
 have hdm:((aK p).1,l)∈st.reverse:=by
  have:=hs.find
  exact(List.dropWhile_sublist _).subset (by rw[this];simp)
 obtain⟨pre,r',hrs,hpre,hf⟩:=hch.find hdm
 obtain rfl:r'=r:=by have:=hs.find;rw[hf] at this;exact(List.cons.inj this).2
 refine⟨by rw[hj];exact yV _ _ hn,hj,h47,hn,List.mem_reverse.1 hdm,?_⟩
 rw[hrs] at hch
 exact hch.drop
theorem Bq:∀(r ys:List Node) (k:Nat) (st:Opens) (y:Node),bT r k st= -1→0<k→Inv ys st.reverse→(y.kind≠4→∀o∈st,aQ y.path o.1=true)→
 rG (y :: r)∧∀z∈r,z.path≠[]∧Ai z
 | [],_,_,_,_,_,_,_,_=>⟨trivial,by simp⟩
 |z :: r,ys,k,st,y,hw,hk,hi,hy=>by
  unfold bT at hw
  cases ho:bP k z st with
  |none=>rw[ho] at hw;simp only at hw;omega
  |some st'=>
   rw[ho] at hw
   simp only at hw
   unfold bP at ho
   by_cases h0:k=30∨aZ z.kind z.data=false
   ·rw[if_pos h0] at ho;cases ho
   ·rw[if_neg h0,if_neg (show ¬k=0 by omega)] at ho
    by_cases hc:(bV z.path st).1=true∧(bV z.path st).2.length≤5
    ·rw[if_pos hc] at ho
     obtain rfl:(bV z.path st).2=st':=Option.some.inj ho
     have hi2:=hi.come hc.1
     obtain⟨l,q,hs⟩:=sN.1 hc.1
     obtain⟨hne,hj,h47,hn,hm,hch⟩:=hs.facts hi.chain
     have hkind:Ai z:=Dw (s:=z.data) (by cases hd:aZ z.kind z.data with
      |true=>rfl
      |false=>exact absurd (.inr hd) h0)
     have ih:=Bq r (ys++[z]) (k+1) (fM z (bV z.path st).2) z hw (by omega) hi2 (by
      intro h4 o ho
      have:fM z (bV z.path st).2=(bV z.path st).2:=by unfold fM;rw[if_neg h4]
      rw[this,vN hc.1 hs.find,List.mem_reverse] at ho
      rw[hj]
      rcases List.mem_cons.1 ho with rfl|ho
      ·exact eX _ _ hn
      ·exact jL (eX _ _ hn) (hch.below o ho))
     refine⟨⟨fun h4=>?_,ih.1⟩,?_⟩
     ·have hb:=hy h4 _ hm
      simp only at hb
      have hy0:y.path≠[]:=by
       intro e;rw[e] at hb
       have:=dX hb
       simp at this
      rw[Bool.eq_false_iff]
      intro hc2
      rw[hj,yA _ _ _ hn h47 hy0] at hc2
      rcases hc2 with e|hc2
      ·rw[←e] at hb;exact absurd (dX hb) (by omega)
      ·have h1:=dX hb
       have h2:=dX hc2
       omega
     ·intro z' hz'
      rcases List.mem_cons.1 hz' with rfl|hz'
      ·exact⟨hne,hkind⟩
      ·exact ih.2 z' hz'
    ·rw[if_neg hc] at ho;cases ho
structure Yq(x:Node)(r:List Node):Prop where
 root:x.path=[]
 kind:Ai x
 ZA:rG (x :: r)
 rest:∀z∈r,z.path≠[]∧Ai z
theorem Oc{l:List Node}(h:bH l= -1):∃x r,l=x :: r∧Yq x r:=by
 unfold bH at h
 cases l with
 |nil=>simp at h
 |cons x r=>
  rw[if_neg (by simp)] at h
  unfold bT at h
  cases ho:bP 0 x [] with
  |none=>rw[ho] at h;simp at h
  |some st'=>
   rw[ho] at h
   simp only at h
   unfold bP at ho
   by_cases h0:0=30∨aZ x.kind x.data=false
   ·rw[if_pos h0] at ho;cases ho
   ·rw[if_neg h0,if_pos rfl] at ho
    by_cases hp:x.path=[]∧([]:Opens).length≤5
    ·rw[if_pos hp] at ho
     obtain rfl:[]=st':=Option.some.inj ho
     have hl:=Bq r [x] 1 (fM x []) x h (by omega) (Inv.root x hp.1) (by
      intro h4 o ho
      have:fM x []=[]:=by unfold fM;rw[if_neg h4]
      rw[this] at ho
      simp at ho)
     exact⟨x,r,rfl,hp.1,Dw (s:=x.data) (by cases hd:aZ x.kind x.data with
      |true=>rfl
      |false=>exact absurd (.inr hd) h0),hl.1,hl.2⟩
    ·rw[if_neg hp] at ho;cases ho
theorem under_below(p d:List UInt8):underB p d=aQ p d:=by
 unfold underB aQ preB
 by_cases h:d=[]
 ·subst h
  cases p <;> simp
 ·rw[if_neg h]
  have hd:d.isEmpty=false:=by cases d <;> simp at h ⊢
  rw[hd]
  simp only[Bool.false_or,List.length_append,List.length_cons,List.length_nil,Nat.zero_add]
  by_cases h2:p.take (d.length+1)=d++[47]
  ·have hl:d.length<p.length:=by
    have:=congrArg List.length h2
    simp at this
    omega
   have hne:p≠d:=by intro e;rw[e] at hl;omega
   simp[h2,hl,hne]
  ·have h3:(p.take (d.length+1)==d++[47])=false:=by rw[beq_eq_false_iff_ne];exact h2
   rw[h3,Bool.and_false,Bool.and_false]
theorem UY(p:List UInt8):sK p=(aK p).2:=by
 unfold sK aK lastIdx
 rcases vM p 47 p.length with⟨h1,h2⟩|⟨j,h1,h2,h3,h4⟩
 ·rw[if_neg (by omega),show(iT p 47 p.length+1).toNat=0 by omega];rfl
 ·rw[h1,if_pos (by omega)]
  rfl
theorem unwind_not{p d:List UInt8}{st:List (List UInt8)}(h:aQ p d=false):unwind p (d :: st)=(iU st++(unwind p st).1,(unwind p st).2):=by
 rw[unwind,under_below,h];rfl
theorem unwind_yes{p d:List UInt8}{st:List (List UInt8)}(h:aQ p d=true):unwind p (d :: st)=([],d :: st):=by
 rw[unwind,under_below,h];rfl
section
variable {α:Type} (p q:α→Bool) (hpq:∀x,p x=true→q x=true)
theorem ZB:∀l:List α,(∀x,p x=true→q x=true)→(l.takeWhile q).takeWhile p=l.takeWhile p
 | [],_=>rfl
 |x :: r,h=>by
  by_cases hp:p x=true
  ·rw[List.takeWhile_cons_of_pos (h x hp),List.takeWhile_cons_of_pos hp,List.takeWhile_cons_of_pos hp,ZB r h]
  ·rw[List.takeWhile_cons_of_neg hp]
   by_cases hq:q x=true
   ·rw[List.takeWhile_cons_of_pos hq,List.takeWhile_cons_of_neg hp]
   ·rw[List.takeWhile_cons_of_neg hq];rfl
theorem ZC:∀l:List α,(∀x,p x=true→q x=true)→(l.takeWhile q).dropWhile p=(l.dropWhile p).takeWhile q
 | [],_=>rfl
 |x :: r,h=>by
  by_cases hp:p x=true
  ·rw[List.takeWhile_cons_of_pos (h x hp),List.dropWhile_cons_of_pos hp,List.dropWhile_cons_of_pos hp,ZC r h]
  ·rw[List.dropWhile_cons_of_neg hp]
   by_cases hq:q x=true
   ·rw[List.takeWhile_cons_of_pos hq,List.dropWhile_cons_of_neg hp]
   ·rw[List.takeWhile_cons_of_neg hq];rfl
theorem ZE:∀l:List α,(∀x,p x=true→q x=true)→(l.dropWhile p).dropWhile q=l.dropWhile q
 | [],_=>rfl
 |x :: r,h=>by
  by_cases hp:p x=true
  ·rw[List.dropWhile_cons_of_pos hp,List.dropWhile_cons_of_pos (h x hp),ZE r h]
  ·rw[List.dropWhile_cons_of_neg hp]
end
theorem UZ{α:Type}(p:α→Bool):∀l:List α,(∀x∈l,p x=true)→l.takeWhile p=l
 | [],_=>rfl
 |x :: r,h=>by rw[List.takeWhile_cons_of_pos (h x (by simp)),UZ p r fun y hy=>h y (by simp[hy])]
theorem U0{α:Type}(p:α→Bool):∀l:List α,(∀x∈l,p x=true)→l.dropWhile p=[]
 | [],_=>rfl
 |x :: r,h=>by rw[List.dropWhile_cons_of_pos (h x (by simp)),U0 p r fun y hy=>h y (by simp[hy])]
theorem rG.tail{y:Node}{r:List Node}(h:rG (y :: r)):rG r:=by
 cases r with
 |nil=>trivial
 |cons z r=>exact h.2
theorem rG.drop{a r:List Node}(h:rG (a++r)):rG r:=by
 induction a with
 |nil=>exact h
 |cons x a ih=>exact ih (rG.tail h)
theorem QZ{α:Type}(p:α→Bool)(l:List α):∃a,l=a++l.dropWhile p:=⟨l.takeWhile p,List.takeWhile_append_dropWhile.symm⟩
theorem rG.dw{r:List Node}(p:Node→Bool)(h:rG r):rG (r.dropWhile p):=by
 obtain⟨a,ha⟩:=QZ p r
 rw[ha] at h
 exact h.drop
theorem qM(s:List UInt8):aC [s]=bM s:=by simp[aC]
theorem Qg(kd:Int)(da:List UInt8)(h:kd=1∨kd=2∨kd=3):xW kd da=vK kd da++bM [41]:=by
 unfold xW vK
 rcases h with rfl|rfl|rfl <;> simp[aC]
theorem yX:∀(r:List Node) (k j:Nat) (st:List (List UInt8)),0<k→0<j→dA r k st=dA r j st
 | [],_,_,_,_,_=>rfl
 |n :: r,k,j,st,hk,hj=>by
  rw[dA,dA]
  have h1:mY k n.path=mY j n.path:=by unfold mY;rw[if_neg (by omega),if_neg (by omega)]
  have h2:nJ k=nJ j:=by unfold nJ;rw[if_neg (by omega),if_neg (by omega)]
  rw[h1,h2,yX r (k+1) (j+1) _ (by omega) (by omega),yX r (k+1) (j+1) _ (by omega) (by omega)]
theorem rH:∀(m:Nat) (r:List Node) (k:Nat) (d:List UInt8) (st:List (List UInt8)),r.length≤m→0<k→rG r→(∀z∈r,Ai z)→
 dA r k (d :: st)=bJ (r.takeWhile fun z=>aQ z.path d)++(iU st++dA (r.dropWhile fun z=>aQ z.path d) k st)
 |_,[],k,d,st,_,_,_,_=>rfl
 |0,_ :: _,_,_,_,hm,_,_,_=>by simp at hm
 |m+1,n :: r,k,d,st,hm,hk,hl,hko=>by
  simp only[List.length_cons] at hm
  cases hb:aQ n.path d with
  |false=>
   rw[List.takeWhile_cons_of_neg (by simp[hb]),List.dropWhile_cons_of_neg (by simp[hb])]
   show dA (n :: r) k (d :: st)=iU st++dA (n :: r) k st
   rw[dA,dA,unwind_not hb]
   simp
  |true=>
   have htr:∀z:Node,aQ z.path n.path=true→aQ z.path d=true:=fun z h=>jL h hb
   rw[List.takeWhile_cons_of_pos (by simp[hb]),List.dropWhile_cons_of_pos (by simp[hb]),rF,dA,unwind_yes hb]
   rw[ZB _ _ _ htr,ZC _ _ _ htr]
   have hh:mY k n.path=kX n:=by unfold mY kX;rw[if_neg (by omega),UY]
   have af8:∀z∈r.dropWhile (fun z=>aQ z.path n.path),Ai z:=fun z hz=>hko z (List.mem_cons_of_mem _ ((List.dropWhile_sublist _).subset hz))
   have hle:=(List.dropWhile_sublist (l:=r) (fun z=>aQ z.path n.path)).length_le
   rw[hh]
   by_cases h4:n.kind=4
   ·rw[if_pos h4,rH m r (k+1) n.path (d :: st) (by omega) (by omega) hl.tail (fun z hz=>hko z (List.mem_cons_of_mem _ hz)),
     rH m (r.dropWhile fun z=>aQ z.path n.path) (k+1) d st (by omega) (by omega) (hl.tail.dw _) af8,ZE _ _ _ htr]
    unfold jA oD
    rw[if_neg (by omega)]
    rw[show iU (d :: st)=bM [41]++bM [41] by simp[iU,qM]]
    rw[qM]
    have hkk:dA (r.dropWhile fun z=>aQ z.path d) (k+1) st=dA (r.dropWhile fun z=>aQ z.path d) k st:=by
     exact yX _ _ _ _ (by omega) hk
    rw[hkk]
    simp
   ·rw[if_neg h4]
    have hkd:=hko n (List.mem_cons_self ..)
    have hkd:n.kind=1∨n.kind=2∨n.kind=3:=by rcases hkd with h|h|h|h <;> omega
    have htw:r.takeWhile (fun z=>aQ z.path n.path)=[]:=by
     cases r with
     |nil=>rfl
     |cons z r=>rw[List.takeWhile_cons_of_neg (by simp[hl.1 h4])]
    have hdw:r.dropWhile (fun z=>aQ z.path n.path)=r:=by
     have:=List.takeWhile_append_dropWhile (p:=fun z:Node=>aQ z.path n.path) (l:=r)
     rw[htw] at this
     exact this
    rw[hdw,rH m r (k+1) d st (by omega) (by omega) hl.tail (fun z hz=>hko z (List.mem_cons_of_mem _ hz))]
    have hkk:dA (r.dropWhile fun z=>aQ z.path d) (k+1) st=dA (r.dropWhile fun z=>aQ z.path d) k st:=by
     exact yX _ _ _ _ (by omega) hk
    rw[hkk]
    unfold jA oD nJ
    rw[if_pos hkd,if_neg (by omega),Qg _ _ hkd,qM]
    simp
theorem J9{l:List Node}(h:bH l= -1):aJ l=bM [110,97,114,45,49]++iI l:=by
 obtain⟨x,r,rfl,ht⟩:=Oc h
 unfold aJ iI
 rw[qM,dA]
 congr 1
 have hall:∀z∈r,aQ z.path x.path=true:=by
  intro z hz
  rw[ht.root,qw]
  exact .inl ⟨rfl,(ht.rest z hz).1⟩
 by_cases h4:x.kind=4
 ·rw[if_pos h4]
  have h2:(unwind x.path [])=([],[]):=rfl
  rw[h2]
  simp only
  rw[rH r.length r 1 x.path [] (Nat.le_refl _) (by omega) ht.ZA.tail (fun z hz=>(ht.rest z hz).2)]
  have e1:r.takeWhile (fun z=>aQ z.path x.path)=r:=UZ _ _ hall
  have e2:r.dropWhile (fun z=>aQ z.path x.path)=[]:=U0 _ _ hall
  rw[e1,e2]
  unfold jA oD
  rw[if_neg (by omega)]
  simp[mY,iU,dA,unwindAll,qM]
 ·rw[if_neg h4]
  have hr:r=[]:=by
   cases r with
   |nil=>rfl
   |cons z r=>
    have:=ht.ZA.1 h4
    rw[hall z (by simp)] at this
    cases this
  subst hr
  have hkd:x.kind=1∨x.kind=2∨x.kind=3:=by rcases ht.kind with h|h|h|h <;> omega
  show _=jA x (bJ [])
  unfold jA oD
  rw[if_pos hkd,Qg _ _ hkd]
  simp[mY,nJ,dA,unwindAll,unwind]
end Go.Proofs.YtdkogijdfgfpeaaGreatDoor

/- Plain: the document's reader, and that the parser tells the same of the whole bytes. -/
import Derived.Test.YtdkogijdfgfpeaaGreatDoorZLooks
import Derived.Test.YtdkogijdfgfpeaaGreatDoorZPackw
set_option linter.unusedVariables false
namespace Go.Proofs.YtdkogijdfgfpeaaGreatDoor
open Go Go.RowKit
structure RS where
 rest:List UInt8
 at':Nat
 nodes:List Node
abbrev RE (α:Type):=Except (Int×Int) α
def RS.skip(ρ:RS)(k:Nat):RS:={ρ with rest:=ρ.rest.drop k,at':=ρ.at'+k}
def RS.add(ρ:RS)(n:Node):RS:={ρ with nodes:=ρ.nodes++[n]}
def RS.few(ρ:RS):Int×Int:=(2,(ρ.at':Int)+(ρ.rest.length:Int))
def fD(most:Nat)(ρ:RS):RE (List UInt8×RS):=
 if ρ.rest.length<8 then .error ρ.few
 else if most<cu (ρ.rest.take 8) then .error (3,(ρ.at':Int))
 else if ρ.rest.length<8+cu (ρ.rest.take 8)+dN (cu (ρ.rest.take 8)) then .error ρ.few
 else if ((ρ.rest.drop (8+cu (ρ.rest.take 8))).take (dN (cu (ρ.rest.take 8)))).any (· != 0) then .error (4,(ρ.at':Int))
 else .ok ((ρ.rest.drop 8).take (cu (ρ.rest.take 8)),ρ.skip (8+cu (ρ.rest.take 8)+dN (cu (ρ.rest.take 8))))
def bU(may:List (List UInt8))(ρ:RS):RE (List UInt8×RS):=
 (fD 8 ρ).bind fun x=>if x.1∈may then .ok x else .error (5,(ρ.at':Int))
def Ef(path:List UInt8)(ρ:RS):RE RS:=
 (bU [jP,gK] ρ).bind fun x=>
   if x.1=jP then
    (bU [[]] x.2).bind fun x=>(bU [gK] x.2).bind fun x=>(fD 100 x.2).bind fun x=>(bU [aX] (x.2.add ⟨path,2,x.1⟩)).bind fun x=>.ok x.2
   else (fD 100 x.2).bind fun x=>(bU [aX] (x.2.add ⟨path,1,x.1⟩)).bind fun x=>.ok x.2
def Eh(path:List UInt8)(ρ:RS):RE RS:=
 (bU [Lr] ρ).bind fun y=>(fD 100 y.2).bind fun x=>if aZ 3 x.1 then (bU [aX] (x.2.add ⟨path,3,x.1⟩)).bind fun x=>.ok x.2 else .error (6,(y.2.at':Int))
def pX(node:List UInt8→RS→RE RS)(path:List UInt8):Nat→List UInt8→RS→RE RS
 |0,_,ρ=>.ok ρ
 |f+1,last,ρ=>(bU [gX,aX] ρ).bind fun x=>
  if x.1=aX then .ok x.2 else
  (bU [gI] x.2).bind fun x=>(bU [jQ] x.2).bind fun y=>(fD 48 y.2).bind fun x=>
    if nameB x.1=false then .error (6,(y.2.at':Int)) else if pY x.1 last then .error (7,(y.2.at':Int)) else
    (bU [nS] x.2).bind fun z=>(node (bg path x.1) z.2).bind fun ρ=>(bU [aX] ρ).bind fun z=>pX node path f x.1 z.2
def jo:Nat→List UInt8→RS→RE RS
 |0,_,ρ=>(bU [gI] ρ).bind fun _=>.error (8,(ρ.at':Int))
 |d+1,path,ρ=>(bU [gI] ρ).bind fun x=>if x.2.nodes.length=30 then .error (9,(ρ.at':Int)) else
  (bU [nD] x.2).bind fun x=>(bU [fA,fB,jm] x.2).bind fun x=>
    if x.1=fA then Ef path x.2 else if x.1=fB then Eh path x.2 else pX (jo d) path (x.2.rest.length+1) [] (x.2.add ⟨path,4,[]⟩)
def finish(r:List Job×aT):aT:=if r.1=[] then r.2 else r.2.fail 2 ((r.2.at':Int)+(r.2.rest.length:Int))
def told(σ:aT):RE (List Node×CX):=if σ.err=0 then .ok (σ.nodes,σ.x) else .error (σ.err,σ.bad)
def outcome(js:List Job)(σ:aT):RE (List Node×CX):=told (finish (run js σ))
def RS.par(ρ:RS)(ab:Opens)(p:List UInt8)(cx:CX:=by assumption):aT:=⟨ρ.rest,ρ.at',0,0,ρ.nodes,ab,p,cx⟩
section
variable {cx:CX}
theorem vZ{σ:aT}(h:σ.err≠0)(hd:σ.Gn)(js:List Job):outcome js σ=.error (σ.err,σ.bad):=by
 rw[outcome,CW h hd,finish]
 simp only[aT.fU h,ite_self]
 rw[told,if_neg h]
theorem uH(j:Job)(js:List Job)(ρ:RS)(ab:Opens)(p:List UInt8):
 outcome (j :: js) (ρ.par ab p)=match fD j.most ρ with
  | .error e=>.error e
  | .ok x=>outcome ((aN j x.1 (ρ.at':Int) (x.2.par ab p)).1++js) (aN j x.1 (ρ.at':Int) (x.2.par ab p)).2:=by
 have hbad:∀e:Int,e≠0→((ρ.par ab p).next j.most=(.none,(ρ.par ab p).fail e ρ.at'))→outcome (j :: js) (ρ.par ab p)=.error (e,(ρ.at':Int)):=by
  intro e he h
  rw[outcome,run_stop h,finish,if_neg (by simp),aT.qm (σ:=ρ.par ab p cx) rfl,aT.fU (by exact he),told,if_neg (by exact he)]
 have hfew:((ρ.par ab p).next j.most=(.none,ρ.par ab p))→outcome (j :: js) (ρ.par ab p)=.error ρ.few:=by
  intro h
  rw[outcome,run_stop h,finish,if_neg (by simp),aT.qm (σ:=ρ.par ab p cx) rfl,told,if_neg (by show(2:Int)≠0;decide)]
  rfl
 unfold fD
 by_cases h8:ρ.rest.length<8
 ·rw[if_pos h8]
  exact hfew (by rw[aT.next,if_pos (.inr h8)])
 rw[if_neg h8]
 have hne:¬((ρ.par ab p).err≠0∨(ρ.par ab p).rest.length<8):=by
  rintro (h|h)
  ·exact h rfl
  ·exact h8 h
 by_cases hm:j.most<cu (ρ.rest.take 8)
 ·rw[if_pos hm]
  exact hbad 3 (by decide) (by rw[aT.next,if_neg hne];exact if_pos hm)
 rw[if_neg hm]
 by_cases hf:ρ.rest.length<8+cu (ρ.rest.take 8)+dN (cu (ρ.rest.take 8))
 ·rw[if_pos hf]
  exact hfew (by rw[aT.next,if_neg hne];exact(if_neg hm).trans (if_pos hf))
 rw[if_neg hf]
 by_cases hp:((ρ.rest.drop (8+cu (ρ.rest.take 8))).take (dN (cu (ρ.rest.take 8)))).any (· != 0)=true
 ·rw[if_pos hp]
  exact hbad 4 (by decide) (by rw[aT.next,if_neg hne];exact(if_neg hm).trans ((if_neg hf).trans (if_pos hp)))
 rw[if_neg hp]
 have h:(ρ.par ab p).next j.most=(.some ((ρ.rest.drop 8).take (cu (ρ.rest.take 8))),{(ρ.par ab p) with rest:=(ρ.par ab p).rest.drop (8+cu (ρ.rest.take 8)+dN (cu (ρ.rest.take 8))),at':=(ρ.par ab p).at'+(8+cu (ρ.rest.take 8)+dN (cu (ρ.rest.take 8)))}):=by
  rw[aT.next,if_neg hne];exact(if_neg hm).trans ((if_neg hf).trans (if_neg hp))
 rw[outcome,CV (by omega) (by show _≤ρ.rest.length;omega) h]
 rfl
theorem zy(may:List (List UInt8))(act:vw)(js:List Job)(ρ:RS)(ab:Opens)(p:List UInt8):
 outcome (.word may act :: js) (ρ.par ab p)=match bU may ρ with
  | .error e=>.error e
  | .ok x=>outcome ((bI act x.1 (ρ.at':Int) (x.2.par ab p)).1++js) (bI act x.1 (ρ.at':Int) (x.2.par ab p)).2:=by
 rw[uH,bU]
 show(match fD 8 ρ with | .error e=>_ | .ok x=>_)=_
 cases h:fD 8 ρ with
 |error e=>rfl
 |ok x=>
  simp only[Except.bind,aN]
  by_cases hm:x.1∈may
  ·simp only[if_pos hm]
  ·simp only[if_neg hm]
   rw[vZ (by show(5:Int)≠0;decide) (fun _=>rfl)]
   rfl
def Goes(js:List Job)(σ:aT)(r:RE RS)(k:List Job)(ab:Opens)(cx:CX:=by assumption):Prop:=
 match r with
 | .error e=>outcome js σ=.error e
 | .ok ρ=>∃p,outcome js σ=outcome k (ρ.par ab p)
theorem Goes.of_eq{js js':List Job}{σ σ':aT}{r:RE RS}{k:List Job}{ab:Opens}(he:outcome js σ=outcome js' σ')(h:Goes js' σ' r k ab):Goes js σ r k ab:=by
 cases r with
 |error e=>exact he.trans h
 |ok ρ=>obtain⟨p,h⟩:=h;exact⟨p,he.trans h⟩
theorem qB{may:List (List UInt8)}{act:vw}{js k:List Job}{ρ:RS}{ab ab':Opens}{p:List UInt8}{f:List UInt8×RS→RE RS}
 (h:∀x,bU may ρ=.ok x→Goes ((bI act x.1 (ρ.at':Int) (x.2.par ab p)).1++js) (bI act x.1 (ρ.at':Int) (x.2.par ab p)).2 (f x) k ab'):
 Goes (.word may act :: js) (ρ.par ab p) ((bU may ρ).bind f) k ab':=by
 have ho:=zy (cx:=cx) may act js ρ ab p
 cases hw:bU may ρ with
 |error e=>rw[hw] at ho;exact ho
 |ok x=>rw[hw] at ho;exact(h x hw).of_eq ho
theorem ku{may:List (List UInt8)}{js k:List Job}{ρ:RS}{ab ab':Opens}{p:List UInt8}{f:List UInt8×RS→RE RS}
 (h:∀x,bU may ρ=.ok x→Goes js (x.2.par ab p) (f x) k ab'):
 Goes (.word may .none :: js) (ρ.par ab p) ((bU may ρ).bind f) k ab':=qB h
theorem xB{j:Job}{js k:List Job}{ρ:RS}{ab ab':Opens}{p:List UInt8}{f:List UInt8×RS→RE RS}
 (h:∀x,fD j.most ρ=.ok x→Goes ((aN j x.1 (ρ.at':Int) (x.2.par ab p)).1++js) (aN j x.1 (ρ.at':Int) (x.2.par ab p)).2 (f x) k ab'):
 Goes (j :: js) (ρ.par ab p) ((fD j.most ρ).bind f) k ab':=by
 have ho:=uH (cx:=cx) j js ρ ab p
 cases hw:fD j.most ρ with
 |error e=>rw[hw] at ho;exact ho
 |ok x=>rw[hw] at ho;exact(h x hw).of_eq ho
theorem AP{may:List (List UInt8)}{k:List Job}{ρ:RS}{ab:Opens}{p:List UInt8}:Goes (.word may .none :: k) (ρ.par ab p) ((bU may ρ).bind fun x=>.ok x.2) k ab:=
 ku fun x _=>⟨p,rfl⟩
theorem qY{js k:List Job}{σ:aT}{ab:Opens}{e b:Int}(he:e≠0)(h1:σ.err=e)(h2:σ.bad=b)(h3:σ.rest=[]):Goes js σ (.error (e,b)) k ab:=by
 show outcome js σ=_
 rw[vZ (by rw[h1];exact he) (fun _=>h3),h1,h2]
theorem wo{most:Nat}{ρ:RS}{x:List UInt8×RS}(h:fD most ρ=.ok x):∃k,8≤k∧k≤ρ.rest.length∧x.2=ρ.skip k∧x.1.length≤most∧x.1.length+8≤k:=by
 unfold fD at h
 split at h
 ·cases h
 ·split at h
  ·cases h
  ·split at h
   ·cases h
   ·split at h
    ·cases h
    ·cases h
     exact⟨_,by omega,by omega,rfl,by rw[List.length_take];omega,by rw[List.length_take];omega⟩
theorem Ei{may:List (List UInt8)}{ρ:RS}{x:List UInt8×RS}(h:bU may ρ=.ok x):fD 8 ρ=.ok x∧x.1∈may:=by
 unfold bU at h
 cases hn:fD 8 ρ with
 |error e=>rw[hn] at h;cases h
 |ok y=>
  rw[hn] at h
  simp only[Except.bind] at h
  split at h
  ·cases h
   exact⟨rfl,by assumption⟩
  ·cases h
theorem Sj(path:List UInt8)(k:List Job)(ρ:RS)(ab:Opens):Goes (.word [jP,gK] .file :: k) (ρ.par ab path) (Ef path ρ) k ab:=by
 refine qB fun x hx=>?_
 simp only[bI]
 split
 ·exact ku fun x _=>ku fun x _=>xB (j:=.keep 2) fun x _=>AP (ρ:=x.2.add ⟨path,2,x.1⟩)
 ·exact xB (j:=.keep 1) fun x _=>AP (ρ:=x.2.add ⟨path,1,x.1⟩)
theorem Sm(path:List UInt8)(k:List Job)(ρ:RS)(ab:Opens):Goes (.word [Lr] .none :: .leads :: .word [aX] .none :: k) (ρ.par ab path) (Eh path ρ) k ab:=by
 refine ku fun y hy=>xB (j:=.leads) fun x hx=>?_
 by_cases hd:aZ 3 x.1=true
 ·simp only[aN,hd,if_true]
  exact AP (ρ:=x.2.add ⟨path,3,x.1⟩)
 ·simp only[aN,if_neg hd]
  exact qY (by decide) rfl rfl rfl
def LG(d:Nat)(cx:CX:=by assumption):Prop:=∀(path:List UInt8) (k:List Job) (ρ:RS) (ab:Opens),ab.length+d=6→Goes (kG++k) (ρ.par ab path) (jo d path ρ) k ab
theorem jq{most:Nat}{ρ:RS}{x:List UInt8×RS}(h:fD most ρ=.ok x):x.2.rest.length+8≤ρ.rest.length:=by
 obtain⟨k,h1,h2,h3,-⟩:=wo h
 rw[h3]
 simp only[RS.skip,List.length_drop]
 omega
theorem bn{may:List (List UInt8)}{ρ:RS}{x:List UInt8×RS}(h:bU may ρ=.ok x):x.2.rest.length+8≤ρ.rest.length:=jq (Ei h).1
theorem bind_ok{α β:Type}{r:RE α}{f:α→RE β}{y:β}(h:r.bind f=.ok y):∃x,r=.ok x∧f x=.ok y:=by
 cases r with
 |error e=>cases h
 |ok x=>exact⟨x,rfl,h⟩
theorem VW{path:List UInt8}{ρ ρ':RS}(h:Ef path ρ=.ok ρ'):ρ'.rest.length≤ρ.rest.length:=by
 unfold Ef at h
 obtain⟨x,h1,h⟩:=bind_ok h
 have l1:=bn h1
 split at h
 ·obtain⟨a,h2,h⟩:=bind_ok h
  obtain⟨b,h3,h⟩:=bind_ok h
  obtain⟨c,h4,h⟩:=bind_ok h
  obtain⟨d,h5,h⟩:=bind_ok h
  cases h
  have l2:=bn h2
  have l3:=bn h3
  have l4:=jq h4
  have l5:=bn h5
  simp only[RS.add] at l5
  omega
 ·obtain⟨c,h4,h⟩:=bind_ok h
  obtain⟨d,h5,h⟩:=bind_ok h
  cases h
  have l4:=jq h4
  have l5:=bn h5
  simp only[RS.add] at l5
  omega
theorem VX{path:List UInt8}{ρ ρ':RS}(h:Eh path ρ=.ok ρ'):ρ'.rest.length≤ρ.rest.length:=by
 unfold Eh at h
 obtain⟨x,h1,h⟩:=bind_ok h
 obtain⟨y,h2,h⟩:=bind_ok h
 have l1:=bn h1
 have l2:=jq h2
 split at h
 ·obtain⟨d,h5,h⟩:=bind_ok h
  cases h
  have l5:=bn h5
  simp only[RS.add] at l5
  omega
 ·cases h
theorem LH{node:List UInt8→RS→RE RS}(hn:∀p ρ ρ',node p ρ=.ok ρ'→ρ'.rest.length≤ρ.rest.length)(path:List UInt8):∀(f:Nat) (last:List UInt8) (ρ ρ':RS),pX node path f last ρ=.ok ρ'→ρ'.rest.length≤ρ.rest.length
 |0,_,ρ,ρ',h=>by cases h;exact Nat.le_refl _
 |f+1,last,ρ,ρ',h=>by
  unfold pX at h
  obtain⟨x,h1,h⟩:=bind_ok h
  have l1:=bn h1
  split at h
  ·cases h;omega
  ·obtain⟨a,h2,h⟩:=bind_ok h
   obtain⟨b,h3,h⟩:=bind_ok h
   obtain⟨c,h4,h⟩:=bind_ok h
   have l2:=bn h2
   have l3:=bn h3
   have l4:=jq h4
   split at h
   ·cases h
   ·split at h
    ·cases h
    ·obtain⟨d,h5,h⟩:=bind_ok h
     obtain⟨e,h6,h⟩:=bind_ok h
     obtain⟨g,h7,h⟩:=bind_ok h
     have l5:=bn h5
     have l6:=hn _ _ _ h6
     have l7:=bn h7
     have:=LH hn path f _ _ _ h
     omega
theorem tC:∀(d:Nat) (path:List UInt8) (ρ ρ':RS),jo d path ρ=.ok ρ'→ρ'.rest.length≤ρ.rest.length
 |0,path,ρ,ρ',h=>by
  unfold jo at h
  obtain⟨x,h1,h⟩:=bind_ok h
  cases h
 |d+1,path,ρ,ρ',h=>by
  unfold jo at h
  obtain⟨x,h1,h⟩:=bind_ok h
  have l1:=bn h1
  split at h
  ·cases h
  ·obtain⟨y,h2,h⟩:=bind_ok h
   obtain⟨z,h3,h⟩:=bind_ok h
   have l2:=bn h2
   have l3:=bn h3
   split at h
   ·have:=VW h;omega
   ·split at h
    ·have:=VX h;omega
    ·have:=LH (tC d) path _ _ _ _ h
     simp only[RS.add] at this
     omega
theorem LJ{d:Nat}(hN:LG d)(path:List UInt8)(k:List Job)(ab:Opens)(hab:ab.length+1+d=6):∀(f:Nat) (last p:List UInt8) (ρ:RS),ρ.rest.length<f→
 Goes (mQ :: k) (ρ.par (ab++[(path,last)]) p) (pX (jo d) path f last ρ) k ab
 |0,_,_,ρ,h=>absurd h (by omega)
 |f+1,last,p,ρ,hf=>by
  unfold pX
  refine qB fun x hx=>?_
  have lx:=bn hx
  simp only[bI]
  split
  ·exact⟨p,by simp[RS.par]⟩
  ·refine ku fun x2 hx2=>ku fun y hy=>xB (j:=.name) fun c hc=>?_
   have l2:=bn hx2
   have l3:=bn hy
   have l4:=jq hc
   simp only[aN,RS.par,List.getLastD_concat,List.dropLast_concat]
   by_cases hnm:nameB c.1=false
   ·simp only[hnm,if_true,Bool.not_false]
    exact qY (by decide) rfl rfl rfl
   ·rw[if_neg hnm]
    have Gp:nameB c.1=true:=by simpa using hnm
    by_cases hle:pY c.1 last=true
    ·simp only[Gp,hle,if_true,Bool.not_true,Bool.false_eq_true,if_false]
     exact qY (by decide) rfl rfl rfl
    ·simp only[Gp,if_neg hle,Bool.not_true,Bool.false_eq_true,if_false]
     refine ku (ρ:=c.2) (ab:=ab++[(path,c.1)]) (p:=bg path c.1) fun z hz=>?_
     have l5:=bn hz
     have hnd:=hN (bg path c.1) (.word [aX] .none :: mQ :: k) z.2 (ab++[(path,c.1)]) (by simp;omega)
     cases hr:jo d (bg path c.1) z.2 with
     |error e=>rw[hr] at hnd;exact hnd
     |ok ρ2=>
      rw[hr] at hnd
      obtain⟨p2,hnd⟩:=hnd
      have l6:=tC _ _ _ _ hr
      refine Goes.of_eq hnd ?_
      refine ku fun z2 hz2=>?_
      have l7:=bn hz2
      exact LJ hN path k ab hab f _ _ _ (by omega)
theorem Ht:∀d:Nat,LG d
 |0=>by
  intro path k ρ ab hab
  unfold jo
  refine qB fun x hx=>?_
  simp only[bI]
  rw[if_pos (by show 5<ab.length;omega)]
  exact qY (by decide) rfl rfl rfl
 |d+1=>by
  intro path k ρ ab hab
  unfold jo
  refine qB fun x hx=>?_
  simp only[bI]
  rw[if_neg (by show ¬5<ab.length;omega)]
  by_cases h30:x.2.nodes.length=30
  ·rw[if_pos h30,if_pos (by exact h30)]
   exact qY (by decide) rfl rfl rfl
  ·rw[if_neg h30,if_neg (by exact h30)]
   refine ku fun y hy=>qB fun z hz=>?_
   have hmem:=(Ei hz).2
   simp only[bI]
   by_cases h1:z.1=fA
   ·rw[if_pos h1,if_pos h1]
    exact Sj path k z.2 ab
   ·rw[if_neg h1,if_neg h1]
    by_cases h2:z.1=fB
    ·rw[if_pos h2,if_pos h2]
     exact Sm path k z.2 ab
    ·have h3:z.1=jm:=by
      simp only[List.mem_cons,List.not_mem_nil,or_false] at hmem
      rcases hmem with h|h|h
      ·exact absurd h h1
      ·exact absurd h h2
      ·exact h
     rw[if_neg h2,if_neg h2,if_pos h3]
     exact LJ (Ht d) path k ab (by omega) _ [] path (z.2.add ⟨path,4,[]⟩) (by simp only[RS.add];omega)
end
def RS.clear(ρ:RS):RS:={ρ with nodes:=[]}
def nU:Nat→CX→RS→RE (CX×RS)
 |0,x,ρ=>.ok (x,ρ)
 |f+1,x,ρ=>(bU [iO,jf] ρ).bind fun y=>if y.1=iO then (fD 12 y.2).bind fun z=>if eY x z.1≠0 then .error (eY x z.1,(y.2.at':Int)) else nU f {x with refs:=x.refs++[z.1]} z.2 else .ok (x,y.2)
def CX.put(x:CX)(l:List Node):CX:={x with came:=tu x.came (x.ent l),order:=x.order++[x.name]}
def CX.start(x:CX)(s:List UInt8):CX:={x with name:=s,refs:=[]}
def wu(x:CX)(ρ:RS):RE (CX×RS):=
 (fD 12 ρ).bind fun y=>if dG x y.1≠0 then .error (dG x y.1,(ρ.at':Int)) else
 (bU [nT] y.2.clear).bind fun z=>(jo 6 [] z.2).bind fun ρ1=>(bU [fQ] ρ1).bind fun v=>(nU (v.2.rest.length+1) (x.start y.1) v.2).bind fun xr=>(fD 8 xr.2).bind fun t=>
   if dU xr.1 t.2.nodes t.1≠0 then .error (dU xr.1 t.2.nodes t.1,(xr.2.at':Int)) else .ok (xr.1.put t.2.nodes,t.2)
def pI:Nat→CX→RS→RE (CX×RS)
 |0,x,ρ=>.ok (x,ρ)
 |f+1,x,ρ=>(bU [cO,iY] ρ).bind fun y=>if y.1=cO then (wu x y.2).bind fun xr=>pI f xr.1 xr.2 else .ok (x,y.2)
def jG(has:aH):CX:=⟨has,[],[],[],[]⟩
def gq(has:aH)(s:List UInt8):RE CX:=
 (bU [dK] ⟨s,0,[]⟩).bind fun y=>(pI (s.length+1) (jG has) y.2).bind fun xr=>if xr.2.rest=[] then .ok xr.1 else .error (10,(xr.2.at':Int))
def oJ(js:List Job)(σ:aT)(r:RE (CX×RS))(k:List Job):Prop:=
 match r with
 | .error e=>outcome js σ=.error e
 | .ok xr=>∃ab p,outcome js σ=outcome k (xr.2.par ab p xr.1)
theorem oJ.of_eq{js js':List Job}{σ σ':aT}{r:RE (CX×RS)}{k:List Job}(he:outcome js σ=outcome js' σ')(h:oJ js' σ' r k):oJ js σ r k:=by
 cases r with
 |error e=>exact he.trans h
 |ok ρ=>obtain⟨ab,p,h⟩:=h;exact⟨ab,p,he.trans h⟩
theorem qZ{may:List (List UInt8)}{act:vw}{js k:List Job}{ρ:RS}{ab:Opens}{p:List UInt8}{cx:CX}{f:List UInt8×RS→RE (CX×RS)}
 (h:∀x,bU may ρ=.ok x→oJ ((bI act x.1 (ρ.at':Int) (x.2.par ab p cx)).1++js) (bI act x.1 (ρ.at':Int) (x.2.par ab p cx)).2 (f x) k):
 oJ (.word may act :: js) (ρ.par ab p cx) ((bU may ρ).bind f) k:=by
 have ho:=zy (cx:=cx) may act js ρ ab p
 cases hw:bU may ρ with
 |error e=>rw[hw] at ho;exact ho
 |ok x=>rw[hw] at ho;exact(h x hw).of_eq ho
theorem yG{j:Job}{js k:List Job}{ρ:RS}{ab:Opens}{p:List UInt8}{cx:CX}{f:List UInt8×RS→RE (CX×RS)}
 (h:∀x,fD j.most ρ=.ok x→oJ ((aN j x.1 (ρ.at':Int) (x.2.par ab p cx)).1++js) (aN j x.1 (ρ.at':Int) (x.2.par ab p cx)).2 (f x) k):
 oJ (j :: js) (ρ.par ab p cx) ((fD j.most ρ).bind f) k:=by
 have ho:=uH (cx:=cx) j js ρ ab p
 cases hw:fD j.most ρ with
 |error e=>rw[hw] at ho;exact ho
 |ok x=>rw[hw] at ho;exact(h x hw).of_eq ho
theorem wB{js k:List Job}{σ:aT}{e b:Int}(he:e≠0)(h1:σ.err=e)(h2:σ.bad=b)(h3:σ.rest=[]):oJ js σ (.error (e,b)) k:=by
 show outcome js σ=_
 rw[vZ (by rw[h1];exact he) (fun _=>h3),h1,h2]
theorem OW{js k:List Job}{σ:aT}{r:RE RS}{k2:List Job}{ab:Opens}{cx:CX}{f:RS→RE (CX×RS)}(h:Goes js σ r k2 ab cx)(hf:∀ρ,r=.ok ρ→∀p,oJ k2 (ρ.par ab p cx) (f ρ) k):oJ js σ (r.bind f) k:=by
 cases r with
 |error e=>exact h
 |ok ρ=>
  obtain⟨p,hp⟩:=h
  exact(hf ρ rfl p).of_eq hp
theorem Ej{js k k2:List Job}{σ:aT}{r:RE (CX×RS)}{f:CX×RS→RE (CX×RS)}(h:oJ js σ r k2)(hf:∀xr,r=.ok xr→∀ab p,oJ k2 (xr.2.par ab p xr.1) (f xr) k):oJ js σ (r.bind f) k:=by
 cases r with
 |error e=>exact h
 |ok xr=>
  obtain⟨ab,p,hp⟩:=h
  exact(hf xr rfl ab p).of_eq hp
theorem Em(k:List Job):∀(f:Nat) (x:CX) (ρ:RS) (ab:Opens) (p:List UInt8),ρ.rest.length<f→oJ (fC :: k) (ρ.par ab p x) (nU f x ρ) (.oC :: gU :: k)
 |0,x,ρ,ab,p,h=>absurd h (by omega)
 |f+1,x,ρ,ab,p,h=>by
  unfold nU
  refine qZ fun y hy=>?_
  have ly:=bn hy
  simp only[bI]
  by_cases hr:y.1=iO
  ·rw[if_pos hr,if_pos hr]
   refine yG (j:=.oP) fun z hz=>?_
   have lz:=jq hz
   simp only[aN,RS.par]
   by_cases he:eY x z.1≠0
   ·rw[if_pos he]
    refine wB he ?_ ?_ ?_ <;> simp[aT.aO,aT.fail,he]
   ·rw[if_neg he]
    have e0:eY x z.1=0:=by simpa using he
    simp only[aT.aO,e0,if_true]
    exact Em k f _ z.2 ab p (by omega)
  ·rw[if_neg hr,if_neg hr]
   exact⟨ab,p,rfl⟩
theorem Hu:∀(f:Nat) (x:CX) (ρ:RS) (xr:CX×RS),nU f x ρ=.ok xr→xr.2.rest.length≤ρ.rest.length
 |0,x,ρ,xr,h=>by cases h;exact Nat.le_refl _
 |f+1,x,ρ,xr,h=>by
  unfold nU at h
  obtain⟨y,h1,h⟩:=bind_ok h
  have l1:=bn h1
  split at h
  ·obtain⟨z,h2,h⟩:=bind_ok h
   have l2:=jq h2
   split at h
   ·cases h
   ·have:=Hu f _ _ _ h
    omega
  ·cases h
   simp only
   omega
theorem Hw{x:CX}{ρ:RS}{xr:CX×RS}(h:wu x ρ=.ok xr):xr.2.rest.length+8≤ρ.rest.length:=by
 unfold wu at h
 obtain⟨y,h1,h⟩:=bind_ok h
 split at h
 ·cases h
 obtain⟨z,h2,h⟩:=bind_ok h
 obtain⟨ρ1,h3,h⟩:=bind_ok h
 obtain⟨v,h4,h⟩:=bind_ok h
 obtain⟨w,h5,h⟩:=bind_ok h
 obtain⟨t,h6,h⟩:=bind_ok h
 split at h
 ·cases h
 cases h
 have l1:=jq h1
 have l2:=bn h2
 have l3:=tC _ _ _ _ h3
 have l4:=bn h4
 have l5:=Hu _ _ _ _ h5
 have l6:=jq h6
 simp only[RS.clear] at l2
 simp only
 omega
theorem LK(k:List Job)(x:CX)(ρ:RS)(ab:Opens)(p:List UInt8):oJ (.jB :: k) (ρ.par ab p x) (wu x ρ) (gU :: k):=by
 unfold wu
 refine yG (j:=.jB) fun y hy=>?_
 simp only[aN,RS.par]
 by_cases he:dG x y.1≠0
 ·rw[if_pos he]
  refine wB he ?_ ?_ ?_ <;> simp[aT.aO,aT.fail,he]
 ·rw[if_neg he]
  have e0:dG x y.1=0:=by simpa using he
  simp only[aT.aO,e0,if_true]
  show oJ (.word [nT] .none :: (kG++[.word [fQ] .none,fC]++k)) (y.2.clear.par [] [] (x.start y.1)) _ _
  refine qZ fun z hz=>?_
  have hg:=Ht (cx:=x.start y.1) 6 [] ([.word [fQ] .none,fC]++k) z.2 [] rfl
  rw[←List.append_assoc] at hg
  refine OW hg fun ρ1 hρ1 p1=>?_
  refine qZ fun v hv=>?_
  refine Ej (Em k (v.2.rest.length+1) (x.start y.1) v.2 [] p1 (by omega)) fun xr hxr ab2 p2=>?_
  refine yG (j:=.oC) fun t ht=>?_
  simp only[aN,RS.par]
  by_cases he2:dU xr.1 t.2.nodes t.1≠0
  ·rw[if_pos he2]
   refine wB he2 ?_ ?_ ?_ <;> simp[aT.aO,aT.fail,he2]
  ·rw[if_neg he2]
   have e2:dU xr.1 t.2.nodes t.1=0:=by simpa using he2
   simp only[aT.aO,e2,if_true]
   exact⟨ab2,p2,rfl⟩
theorem Hy(k:List Job):∀(f:Nat) (x:CX) (ρ:RS) (ab:Opens) (p:List UInt8),ρ.rest.length<f→oJ (gU :: k) (ρ.par ab p x) (pI f x ρ) k
 |0,x,ρ,ab,p,h=>absurd h (by omega)
 |f+1,x,ρ,ab,p,h=>by
  unfold pI
  refine qZ fun y hy=>?_
  have ly:=bn hy
  simp only[bI]
  by_cases hr:y.1=cO
  ·rw[if_pos hr,if_pos hr]
   refine Ej (LK k x y.2 ab p) fun xr hxr ab2 p2=>?_
   have lx:=Hw hxr
   exact Hy k f xr.1 xr.2 ab2 p2 (by omega)
  ·rw[if_neg hr,if_neg hr]
   exact⟨ab,p,rfl⟩
def iH:List Job:=[.word [dK] .none,gU]
def jc(has:aH):aT:=⟨[],0,0,0,[],[],[],jG has⟩
def Qx(r:RE (List Node×CX)):RE CX:=r.bind fun y=>.ok y.2
theorem En(has:aH)(s:List UInt8):Qx (outcome iH ((jc has).feed s))=gq has s:=by
 have h:oJ iH ((⟨s,0,[]⟩:RS).par [] [] (jG has)) ((bU [dK] ⟨s,0,[]⟩).bind fun y=>pI (s.length+1) (jG has) y.2) []:=qZ fun y hy=>by
  have l:=bn hy
  exact Hy [] (s.length+1) (jG has) y.2 [] [] (by simp only at l;omega)
 have e:(jc has).feed s=(⟨s,0,[]⟩:RS).par [] [] (jG has):=rfl
 have e2:gq has s=((bU [dK] ⟨s,0,[]⟩).bind fun y=>pI (s.length+1) (jG has) y.2).bind fun xr=>if xr.2.rest=[] then .ok xr.1 else .error (10,(xr.2.at':Int)):=by
  unfold gq
  cases bU [dK] ⟨s,0,[]⟩ <;> rfl
 rw[e,e2]
 generalize ((bU [dK] ⟨s,0,[]⟩).bind fun y=>pI (s.length+1) (jG has) y.2)=r at *
 cases r with
 |error x=>
  have h':outcome _ _=.error x:=h
  rw[h']
  rfl
 |ok xr=>
  obtain⟨ab,p,h⟩:=h
  rw[h,outcome,rQ]
  by_cases hz:xr.2.rest=[]
  ·rw[if_pos (by exact hz)]
   show Qx (told (xr.2.par ab p xr.1))=if xr.2.rest=[] then _ else _
   rw[if_pos hz];rfl
  ·rw[if_neg (by exact hz)]
   show _=if xr.2.rest=[] then _ else _
   rw[if_neg hz];rfl
theorem Jp(has:aH)(ps:List (List UInt8)):Qx (told (finish (steps ps (iH,jc has))))=gq has ps.flatten:=by
 have h0:run iH (jc has)=(iH,jc has):=run_stop (by rw[aT.next,if_pos (.inr (by show 0<8;decide))])
 have:=Hr ps iH (jc has) (fun h=>absurd rfl h)
 rw[h0] at this
 rw[this]
 exact En has _
def cZ:List Node→Nat→Opens→Option Opens
 | [],_,st=>some st
 |n :: r,k,st=>match bP k n st with
  |none=>none
  |some st'=>cZ r (k+1) (fM n st')
theorem yh:∀(r:List Node) (k:Nat) (st:Opens),bT r k st= -1↔(cZ r k st).isSome=true
 | [],_,_=>by simp[bT,cZ]
 |n :: r,k,st=>by
  unfold bT cZ
  cases bP k n st with
  |none=>simp only[Option.isSome_none];constructor <;> intro h <;> first|omega|cases h
  |some st'=>exact yh r (k+1) _
theorem nV:∀(a b:List Node) (k:Nat) (st:Opens),cZ (a++b) k st=(cZ a k st).bind fun st'=>cZ b (k+a.length) st'
 | [],b,k,st=>by simp[cZ]
 |n :: a,b,k,st=>by
  simp only[List.cons_append,cZ]
  cases bP k n st with
  |none=>rfl
  |some st'=>
   simp only
   rw[nV a b (k+1),List.length_cons,show k+1+a.length=k+(a.length+1) by omega]
theorem Hz:∀(r ys:List Node) (k:Nat) (st st':Opens),0<k→Inv ys st.reverse→cZ r k st=some st'→Inv (ys++r) st'.reverse
 | [],ys,k,st,st',_,h,ha=>by simp[cZ] at ha;subst ha;simpa using h
 |n :: r,ys,k,st,st',hk,h,ha=>by
  unfold cZ at ha
  cases ho:bP k n st with
  |none=>rw[ho] at ha;cases ha
  |some s2=>
   rw[ho] at ha
   simp only at ha
   have hs:(bV n.path st).1=true∧s2=(bV n.path st).2:=by
    unfold bP at ho
    by_cases h0:k=30∨aZ n.kind n.data=false
    ·rw[if_pos h0] at ho;cases ho
    ·rw[if_neg h0,if_neg (show ¬k=0 by omega)] at ho
     by_cases hc:(bV n.path st).1=true∧(bV n.path st).2.length≤5
     ·rw[if_pos hc] at ho;exact⟨hc.1,(Option.some.inj ho).symm⟩
     ·rw[if_neg hc] at ho;cases ho
   obtain⟨h1,rfl⟩:=hs
   have:=Hz r (ys++[n]) (k+1) _ st' (by omega) (h.come h1) ha
   simpa using this
theorem BJ{l:List Node}{st:Opens}(hl:l≠[])(h:cZ l 0 []=some st):Inv l st.reverse:=by
 obtain⟨x,r,rfl⟩:=List.exists_cons_of_ne_nil hl
 unfold cZ at h
 cases ho:bP 0 x [] with
 |none=>rw[ho] at h;cases h
 |some s2=>
  rw[ho] at h
  simp only at h
  unfold bP at ho
  by_cases h0:0=30∨aZ x.kind x.data=false
  ·rw[if_pos h0] at ho;cases ho
  ·rw[if_neg h0,if_pos rfl] at ho
   by_cases hp:x.path=[]∧([]:Opens).length≤5
   ·rw[if_pos hp] at ho
    obtain rfl:=(Option.some.inj ho).symm
    exact Hz r [x] 1 _ st (by omega) (Inv.root x hp.1) h
   ·rw[if_neg hp] at ho;cases ho
theorem qo{l:List Node}(hl:l≠[]):bH l= -1↔(cZ l 0 []).isSome=true:=by
 unfold bH;rw[if_neg hl];exact yh l 0 []
def OX(q:List UInt8)(z:Int):Prop:=(q=[]∧z= -1)∨(∃(n:Nat) (suf:List UInt8),z=n∧n≤25∧q=UInt8.ofNat (97+n) :: suf)
def Sec(p:List UInt8):Prop:=p=[]∨(∃a,p=[a])∨∃a b r,p=a :: b :: r∧(b=47∨b=206)
structure GInv(l:List Node)(above:List (List UInt8))(last:List Int)(st:Opens):Prop where
 ne:l≠[]
 after:cZ l 0 []=some st
 len:above.length=last.length
 pos:0<above.length
 le5:above.length≤5
 le:above.length≤st.length
 at':∀(i:Nat) (h:i<above.length) (h2:i<last.length) (h3:i<st.length),st[i].1=above[i]∧OX st[i].2 last[i]
 nul:∀(i:Nat) (h:i<above.length),(0:UInt8)∉above[i]∧above[i].length≤6*i∧Sec above[i]∧above[i].head? ≠some 47
 secs:∀x∈l,Sec x.path
 short:∀x∈l,x.data.length≤100∧x.path.length≤36
theorem GInv.root(k:Int)(d:List UInt8)(hk:k=4)(hd:d=[]):GInv [⟨[],k,d⟩] [[]] [-1] [([],[])]:=by
 subst hk hd
 refine⟨by simp,by simp[cZ,bP,fM,aZ],rfl,by simp,by simp,by simp,?_,?_,?_,?_⟩
 ·intro i h h2 h3
  obtain rfl:i=0:=by simp at h;omega
  exact⟨rfl,.inl ⟨rfl,rfl⟩⟩
 ·intro i h
  obtain rfl:i=0:=by simp at h;omega
  exact⟨by simp,by simp,.inl rfl,by simp⟩
 ·intro x hx;simp at hx;subst hx;exact .inl rfl
 ·intro x hx;simp at hx;subst hx;simp
theorem GInv.pop{l:List Node}{above:List (List UInt8)}{last:List Int}{st:Opens}(h:GInv l above last st)(h1:1<above.length):GInv l (above.take (above.length-1)) (last.take (above.length-1)) st:=by
 have hl:=h.len
 have h5:=h.le5
 have hs:=h.le
 refine⟨h.ne,h.after,by simp;omega,by simp;omega,by simp;omega,by simp;omega,?_,?_,h.secs,h.short⟩
 ·intro i hi h2 h3
  simp only[List.length_take] at hi h2
  rw[List.getElem_take,List.getElem_take]
  exact h.at' i (by omega) (by omega) h3
 ·intro i hi
  simp only[List.length_take] at hi
  rw[List.getElem_take]
  exact h.nul i (by omega)
theorem ofNat_lt{a b:Nat}(h:a<b)(hb:b<256):UInt8.ofNat a<UInt8.ofNat b:=by
 rw[UInt8.lt_iff_toNat_lt]
 simp only[UInt8.toNat_ofNat']
 omega
theorem YW{q:List UInt8}{z:Int}{n:Nat}{suf:List UInt8}(h:OX q z)(hz:z<n)(hn:n≤25):q<UInt8.ofNat (97+n) :: suf:=by
 rcases h with⟨rfl,_⟩|⟨m,sf,rfl,hm,rfl⟩
 ·exact Oa (by simp)
 ·rw[List.cons_lt_cons_iff]
  exact .inl (ofNat_lt (by omega) (by omega))
theorem VY{d:List UInt8}{n:Nat}{suf:List UInt8}(hd:Sec d)(hs:suf=[]∨suf=[206,177,32,120]):Sec (bg d (UInt8.ofNat (97+n) :: suf)):=by
 unfold bg
 split
 ·rcases hs with rfl|rfl
  ·exact .inr (.inl ⟨_,rfl⟩)
  ·exact .inr (.inr ⟨_,_,_,rfl,.inr rfl⟩)
 ·rename_i hne
  rcases hd with rfl|⟨a,rfl⟩|⟨a,b,r,rfl,hb⟩
  ·exact absurd rfl hne
  ·exact .inr (.inr ⟨a,47,_,rfl,.inl rfl⟩)
  ·exact .inr (.inr ⟨a,b,_,rfl,hb⟩)
theorem GInv.step{l:List Node}{above:List (List UInt8)}{last:List Int}{st:Opens}(h:GInv l above last st)(t:Nat)(ht:t+1=above.length)(ht2:t<last.length)(n:Nat)(suf:List UInt8)
 (hlt:last[t]<n) (hn:n≤25) (hs:suf=[]∨suf=[206,177,32,120]) (hname:nameB (UInt8.ofNat (97+n) :: suf)=true) (kd:Int) (da:List UInt8) (hk4:kd=4→above.length≤4) (hd:aZ kd da=true) (adC:da.length≤100) (acA:l.length<30):
 ∃st',GInv (l++[⟨bg (above[t]'(by omega)) (UInt8.ofNat (97+n) :: suf),kd,da⟩]) (if kd=4 then above++[bg (above[t]'(by omega)) (UInt8.ofNat (97+n) :: suf)] else above) (if kd=4 then last.set t n++[-1] else last.set t n) st':=by
 have hl:=h.len
 have h5:=h.le5
 have hle:=h.le
 have hinv:=BJ h.ne h.after
 obtain⟨e1,hlo⟩:=h.at' t (by omega) ht2 (by omega)
 obtain⟨hn0,hpl,ahA,adD⟩:=h.nul t (by omega)
 have Qy:(47:UInt8)∉UInt8.ofNat (97+n) :: suf:=by
  simp only[List.mem_cons,not_or]
  refine⟨?_,by rcases hs with rfl|rfl <;> decide⟩
  intro e
  have:=congrArg UInt8.toNat e
  simp at this
  omega
 have OY:(0:UInt8)∉UInt8.ofNat (97+n) :: suf:=by
  simp only[List.mem_cons,not_or]
  refine⟨?_,by rcases hs with rfl|rfl <;> decide⟩
  intro e
  have:=congrArg UInt8.toNat e
  simp at this
  omega
 have hnl:(UInt8.ofNat (97+n) :: suf).length≤5:=by rcases hs with rfl|rfl <;> simp
 have hsj:=VY (n:=n) ahA hs
 have hlast:=YW (suf:=suf) hlo hlt hn
 have hhead:(UInt8.ofNat (97+n) :: suf).head? ≠some 47:=by
  intro e
  simp only[List.head?_cons,Option.some.injEq] at e
  exact Qy (by rw[e];simp)
 have hph:(bg above[t] (UInt8.ofNat (97+n) :: suf)).head? ≠some 47:=by
  unfold bg
  split
  ·exact hhead
  ·rename_i hne
   cases ha:above[t] with
   |nil=>exact absurd ha hne
   |cons a r=>rw[ha] at adD;simpa using adD
 have hdo:=qK above[t] _ Qy
 generalize ahB:bg above[t] (UInt8.ofNat (97+n) :: suf)=Eo at *
 have hmem:(above[t],st[t].2)∈st.reverse:=by
  rw[List.mem_reverse,←e1]
  exact List.getElem_mem (by omega)
 have hrev:st.reverse=(st.drop (t+1)).reverse++(above[t],st[t].2) :: (st.take t).reverse:=by
  have e2:st=st.take t++(st[t] :: st.drop (t+1)):=by
   rw[←List.drop_eq_getElem_cons (by omega),List.take_append_drop]
  conv=>lhs;rw[e2]
  rw[List.reverse_append,List.reverse_cons,List.append_assoc,List.singleton_append]
  rw[show(above[t],st[t].2)=st[t] from Prod.ext e1.symm rfl]
 obtain⟨pre,r,hrs,hpre,hf⟩:=hinv.chain.find hmem
 have hr:r=(st.take t).reverse:=by
  have hc:=hinv.chain
  rw[hrev] at hc hf
  have hb:∀o∈(st.drop (t+1)).reverse,aQ o.1 above[t]=true:=by
   intro o ho
   obtain⟨p1,p2,he⟩:=List.append_of_mem ho
   rw[he,List.append_assoc] at hc
   exact fE.below hc.drop (above[t],st[t].2) (by simp)
  rw[List.dropWhile_append_of_pos (fun o ho=>by
   have:=dX (hb o ho)
   simp only[bne_iff_ne,ne_eq]
   intro e
   rw[e] at this
   omega),List.dropWhile_cons] at hf
  simp only[bne_self_eq_false,Bool.false_eq_true,if_false] at hf
  exact(List.cons.inj hf).2.symm
 subst hr
 have hstep:Step Eo st.reverse st[t].2 (st.take t).reverse:=⟨by rw[hdo];exact hf,by rw[hdo];exact hname,hph,by rw[hdo];exact hlast⟩
 have ZN:=sN.2 ⟨_,_,hstep⟩
 have LM:=vN ZN hstep.find
 rw[hdo] at LM
 simp only[List.reverse_cons,List.reverse_reverse] at LM
 have hlen2:(bV Eo st).2.length=t+1:=by rw[LM];simp;omega
 have hok:bP l.length ⟨Eo,kd,da⟩ st=some (bV Eo st).2:=by
  unfold bP
  have h0:0<l.length:=List.length_pos_iff.2 h.ne
  rw[if_neg (by rw[hd];simp;omega),if_neg (by omega),if_pos ⟨ZN,by rw[hlen2];omega⟩]
 have hgo:cZ (l++[⟨Eo,kd,da⟩]) 0 []=some (fM ⟨Eo,kd,da⟩ (bV Eo st).2):=by
  rw[nV,h.after]
  simp only[Option.bind_some,Nat.zero_add,cZ,hok]
 have hpl2:Eo.length≤6*t+6∧(0:UInt8)∉Eo:=by
  rw[←ahB]
  unfold bg
  split
  ·exact⟨by omega,OY⟩
  ·simp only[List.length_append,List.length_cons,List.mem_append,List.mem_cons,not_or] at hnl OY ⊢
   exact⟨by omega,hn0,by decide,OY⟩
 have hst2:(bV Eo st).2=st.take t++[(above[t],UInt8.ofNat (97+n) :: suf)]:=LM
 have hat:∀(i:Nat) (hi:i<above.length) (h2:i<(last.set t (n:Int)).length) (h3:i<(bV Eo st).2.length),(bV Eo st).2[i].1=above[i]∧OX (bV Eo st).2[i].2 (last.set t (n:Int))[i]:=by
  intro i hi h2 h3
  simp only[hst2]
  rw[List.getElem_set]
  by_cases e:i=t
  ·subst e
   rw[List.getElem_append_right (by simp;omega)]
   simp only[List.length_take]
   simp only[show i-min i st.length=0 by omega,List.getElem_cons_zero]
   exact⟨trivial,.inr ⟨n,suf,rfl,hn,rfl⟩⟩
  ·rw[List.getElem_append_left (by simp;omega),if_neg (fun h=>e h.symm)]
   rw[List.getElem_take]
   exact h.at' i hi (by simpa using h2) (by omega)
 have hse:∀x∈l++[⟨Eo,kd,da⟩],Sec x.path:=by
  intro x hx
  rcases List.mem_append.1 hx with hx|hx
  ·exact h.secs x hx
  ·obtain rfl:=List.mem_singleton.1 hx
   exact hsj
 have hsh:∀x∈l++[⟨Eo,kd,da⟩],x.data.length≤100∧x.path.length≤36:=by
  intro x hx
  rcases List.mem_append.1 hx with hx|hx
  ·exact h.short x hx
  ·obtain rfl:=List.mem_singleton.1 hx
   exact⟨adC,by have:=hpl2.1;simp only;omega⟩
 by_cases h4:kd=4
 ·have ha4:=hk4 h4
  rw[if_pos h4,if_pos h4]
  have hpush:fM ⟨Eo,kd,da⟩ (bV Eo st).2=(bV Eo st).2++[(Eo,[])]:=by unfold fM;rw[if_pos h4]
  rw[hpush] at hgo
  refine⟨_,by simp,hgo,by simp;omega,by simp,by simp;omega,by simp;omega,?_,?_,hse,hsh⟩
  ·intro i hi h2 h3
   simp only[List.length_append,List.length_singleton,List.length_set] at hi h2 h3
   by_cases hit:i<above.length
   ·rw[List.getElem_append_left (by omega),List.getElem_append_left hit,List.getElem_append_left (by simp;omega)]
    exact hat i hit (by simp;omega) (by omega)
   ·have e:i=above.length:=by omega
    rw[List.getElem_append_right (by omega),List.getElem_append_right (by omega),List.getElem_append_right (by simp;omega)]
    simp only[List.length_set]
    simp only[show i-above.length=0 by omega,show i-last.length=0 by omega,show i-(bV Eo st).2.length=0 by omega,List.getElem_cons_zero]
    exact⟨trivial,.inl ⟨rfl,rfl⟩⟩
  ·intro i hi
   simp only[List.length_append,List.length_singleton] at hi
   by_cases hit:i<above.length
   ·rw[List.getElem_append_left hit];exact h.nul i hit
   ·rw[List.getElem_append_right (by omega)]
    simp only[show i-above.length=0 by omega,List.getElem_cons_zero]
    exact⟨hpl2.2,by have:=hpl2.1;omega,hsj,hph⟩
 ·rw[if_neg h4,if_neg h4]
  have hpush:fM ⟨Eo,kd,da⟩ (bV Eo st).2=(bV Eo st).2:=by unfold fM;rw[if_neg h4]
  rw[hpush] at hgo
  exact⟨_,by simp,hgo,by simpa using hl,h.pos,h5,by omega,hat,h.nul,hse,hsh⟩
structure Grown(l:List Node):Prop where
 ne:l≠[]
 good:bH l= -1
 secs:∀x∈l,Sec x.path
 short:∀x∈l,x.data.length≤100∧x.path.length≤36
 root:∀d:List UInt8,2<d.length→l≠[⟨[],1,d⟩]
theorem GInv.grown{l:List Node}{above:List (List UInt8)}{last:List Int}{st:Opens}(h:GInv l above last st):Grown l:=
 ⟨h.ne,(qo h.ne).2 (by rw[h.after];rfl),h.secs,h.short,fun d hd e=>by
  have h1:=h.after
  have h2:=h.le
  have h3:=h.pos
  rw[e] at h1
  have h4:st=[]:=by
   simp[cZ,bP,fM] at h1
   cases hdb:aZ 1 d with
   |false=>rw[hdb] at h1;simp at h1
   |true=>
    rw[hdb] at h1
    simp at h1
    first |exact h1|exact h1.symm
  rw[h4,List.length_nil] at h2
  omega⟩
theorem Grown.leaf(d:List UInt8)(h2:d.length≤2):Grown [⟨[],1,d⟩]:=by
 have h:d.length≤100:=by omega
 refine⟨by simp,?_,fun x hx=>?_,fun x hx=>?_,fun d' hd e=>?_⟩
 ·simp[bH,bT,bP,aZ,h]
 ·simp at hx;subst hx;exact .inl rfl
 ·simp at hx;subst hx;exact⟨h,by simp⟩
 ·simp at e;rw[←e] at hd;omega
theorem Grown.at{l:List Node}(h:Grown l){k:Nat}(hk:k<l.length):∃st,cZ (l.take k) 0 []=some st∧(0<k→Inv (l.take k) st.reverse)∧bP k l[k] st≠none:=by
 have hg:=(qo h.ne).1 h.good
 have hs:l=l.take k++(l[k] :: l.drop (k+1)):=by rw[←List.drop_eq_getElem_cons hk,List.take_append_drop]
 rw[hs,nV] at hg
 cases ha:cZ (l.take k) 0 [] with
 |none=>rw[ha] at hg;cases hg
 |some st=>
  rw[ha] at hg
  simp only[Option.bind_some,Nat.zero_add,cZ,List.length_take,Nat.min_eq_left (Nat.le_of_lt hk)] at hg
  refine⟨st,rfl,fun h0=>BJ ?_ ha,?_⟩
  ·intro e
   have:=congrArg List.length e
   rw[List.length_take,List.length_nil,Nat.min_eq_left (Nat.le_of_lt hk)] at this
   omega
  ·intro hn
   rw[hn] at hg
   cases hg
end Go.Proofs.YtdkogijdfgfpeaaGreatDoor

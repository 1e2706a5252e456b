/- Plain: the document's import, step by step. -/
import Derived.Test.YtdkogijdfgfpeaaGreatDoorZIImpW
set_option linter.unusedVariables false
namespace Go.Proofs.YtdkogijdfgfpeaaGreatDoor
open Go Go.RowKit
theorem l9{α β γ:Type}(a:RE α)(f:α→RE β)(g:β→RE γ):(a.bind f).bind g=a.bind fun x=>(f x).bind g:=by cases a <;> rfl
theorem Xq{α β:Type}{c:Prop} [Decidable c](e:Int×Int)(r:RE α)(g:α→RE β):(if c then .error e else r).bind g=if c then .error e else r.bind g:=by split <;> rfl
theorem Xr{α β:Type}{c:Prop} [Decidable c](r r':RE α)(g:α→RE β):(if c then r else r').bind g=if c then r.bind g else r'.bind g:=by split <;> rfl
def zO(xr:CX×RS):RE CX:=if xr.2.rest=[] then .ok xr.1 else .error (10,(xr.2.at':Int))
theorem JA(has:aH)(S:List UInt8):gq has S=(bU [dK] (wH.rs S)).bind fun y=>(pI (S.length+1) (jG has) y.2).bind zO:=by
 unfold gq
 have e:(⟨S,0,[]⟩:RS)=wH.rs S:=by simp[RQ.rs,wH]
 rw[e]
 rfl
def Nq(f:Nat)(xr:CX×RS):RE CX:=(fD 8 xr.2).bind fun t=>if dU xr.1 t.2.nodes t.1≠0 then .error (dU xr.1 t.2.nodes t.1,(xr.2.at':Int)) else (pI f (xr.1.put t.2.nodes) t.2).bind zO
theorem PD(f:Nat)(x:CX)(ρ:RS):(pI (f+1) x ρ).bind zO=(bU [cO,iY] ρ).bind fun y=>if y.1=cO then (fD 12 y.2).bind fun z=>if dG x z.1≠0 then .error (dG x z.1,(y.2.at':Int)) else
 (bU [nT] z.2.clear).bind fun u=>(jo 6 [] u.2).bind fun ρ1=>(bU [fQ] ρ1).bind fun v=>(nU (v.2.rest.length+1) (x.start z.1) v.2).bind (Nq f) else zO (x,y.2):=by
 rw[pI,l9]
 congr 1
 funext y
 rw[Xr]
 split
 ·unfold wu
  rw[l9]
  simp only[l9]
  congr 1
  funext z
  rw[Xq]
  split
  ·rfl
  ·rw[l9]
   congr 1
   funext u
   rw[l9]
   congr 1
   funext ρ1
   rw[l9]
   congr 1
   funext v
   rw[l9]
   congr 1
   funext xr
   unfold Nq
   rw[l9]
   congr 1
   funext t
   rw[Xq]
   split <;> rfl
 ·rfl
theorem Nr(f f':Nat)(x:CX)(ρ:RS):(nU (f+1) x ρ).bind (Nq f')=(bU [iO,jf] ρ).bind fun y=>if y.1=iO then (fD 12 y.2).bind fun z=>if eY x z.1≠0 then .error (eY x z.1,(y.2.at':Int)) else (nU f {x with refs:=x.refs++[z.1]} z.2).bind (Nq f') else Nq f' (x,y.2):=by
 rw[nU,l9]
 congr 1
 funext y
 rw[Xr]
 split
 ·rw[l9]
  congr 1
  funext z
  rw[Xq]
 ·rfl
theorem zQ(q:RQ)(e1 e2 p:Int):(q.aO e1 p).aO e2 p=q.aO (if e1=0 then e2 else e1) p:=by
 unfold RQ.aO
 by_cases h1:e1=0
 ·rw[if_pos h1,if_pos h1]
 ·rw[if_neg h1,if_neg h1,if_neg h1]
  have hb:(q.fail e1 p).e≠0:=by
   unfold RQ.fail
   split
   ·exact h1
   ·assumption
  rw[RQ.fU hb,ite_self]
theorem Ns(x:CX)(s:List UInt8):(if (if fF s then 0 else 11:Int)=0 then (if (aA x.came s).isSome then 7 else 0:Int) else (if fF s then 0 else 11:Int))=dG x s:=by
 unfold dG
 cases fF s <;> simp
theorem PE(x:CX)(s:List UInt8)(b:Bool)(hb:b=true↔(aA x.has s).isSome=true∨(aA x.came s).isSome=true):
 (if (if iZ x.refs s then 0 else 7:Int)=0 then (if s=x.name∨b=true then 0 else 13:Int) else (if iZ x.refs s then 0 else 7:Int))=eY x s:=by
 unfold eY
 cases iZ x.refs s with
 |false=>simp
 |true=>
  simp only[if_true,Bool.not_true,Bool.false_eq_true,if_false]
  by_cases h1:s=x.name
  ·simp[h1]
  ·cases h2:aA x.has s with
   |some _=>
    have:b=true:=hb.2 (.inl (by rw[h2];rfl))
    simp[this]
   |none=>
    cases h3:aA x.came s with
    |some _=>
     have:b=true:=hb.2 (.inr (by rw[h3];rfl))
     simp[this]
    |none=>
     have:¬b=true:=fun e=>by
      rcases hb.1 e with g|g
      ·rw[h2] at g;cases g
      ·rw[h3] at g;cases g
     simp[h1,this]
theorem zS(x:CX)(l:List Node)(s:List UInt8)(e1 e2 e3:Int)(h1:e1=if s≠(sumOf (aJ l)).data.toList then 16 else 0)(h2:e2=match aA x.has x.name with | .some o=>if jM o (x.ent l) then 0 else 12 | .none=>0)
 (h3:e3=match aA x.has x.name with | .some _=>0 | .none=>if x.has.length+jZ x=10 then 14 else 0):(if (if e1=0 then e2 else e1)=0 then e3 else (if e1=0 then e2 else e1))=dU x l s:=by
 unfold dU
 by_cases hs:s≠(sumOf (aJ l)).data.toList
 ·rw[if_pos hs] at h1
  rw[if_pos hs,h1]
  simp
 ·rw[if_neg hs] at h1
  rw[if_neg hs,h1,if_pos rfl]
  cases hf:aA x.has x.name with
  |some o=>
   rw[hf] at h2 h3
   simp only at h2 h3 ⊢
   rw[h2,h3]
   split <;> simp_all
  |none=>
   rw[hf] at h2 h3
   simp only at h2 h3 ⊢
   rw[h2,h3]
   simp
theorem PG(q:RQ)(e p:Int)(S:List UInt8):(q.aO e p).rs S=q.rs S:=by
 have h:=o7 q e p
 unfold RQ.rs
 rw[h.1,h.2.1]
structure BR(R:RE CX)(has:aH)(S:List UInt8)(q:RQ)(f:Nat)(x:CX)(L came:aH)(fresh:List (List UInt8)):Prop where
 e:q.e=0
 ok:Um x
 hs:x.has=has
 l:L=(bG has x.came).1
 cm:came=x.came
 fr:fresh=(bG has x.came).2
 stat:Stat S q R ((pI f x (q.rs S)).bind zO)
 fuel:S.length-q.at'<f
 fit:∀e∈x.came,mM e
 cl:x.came.length≤q.at'
theorem TF{R:RE CX}{has:aH}{S:List UInt8}{q q':RQ}{f:Nat}{x:CX}{L came:aH}{fresh:List (List UInt8)}{p:List UInt8}{refs:List (List UInt8)}{l:List Node}(h:BR R has S q (f+1) x L came fresh)(he:q'.e=0)
 (hst:Stat S q' R ((pI f (({x.start p with refs:=refs}:CX).put l) (q'.rs S)).bind zO)) (hE:Qz x ⟨p,l,refs⟩) (hfit:mM ⟨p,l,refs⟩) (hat:q.at'+1≤q'.at') (hle:q'.at'≤S.length):
 BR R has S q' f (({x.start p with refs:=refs}:CX).put l) (tJ (L,fresh) ⟨p,l,refs⟩).1 (came++[⟨p,l,refs⟩]) (tJ (L,fresh) ⟨p,l,refs⟩).2:=by
 have hx:({x.start p with refs:=refs}:CX).put l={x with name:=p,refs:=refs,came:=x.came++[⟨p,l,refs⟩],order:=x.order++[p]}:=by
  unfold CX.put
  have e1:({x.start p with refs:=refs}:CX).ent l=⟨p,l,refs⟩:=rfl
  rw[e1]
  have e2:tu x.came ⟨p,l,refs⟩=x.came++[⟨p,l,refs⟩]:=LW (e:=⟨p,l,refs⟩) hE.new
  simp only[CX.start] at e2 ⊢
  rw[e2]
 have hc:tJ (L,fresh) ⟨p,l,refs⟩=bG has (x.came++[⟨p,l,refs⟩]):=by
  rw[wE,h.l,h.fr]
 have hfu:=h.fuel
 have hcl:=h.cl
 refine⟨he,?_,?_,?_,?_,?_,hst,by omega,?_,?_⟩
 ·rw[hx];exact h.ok.more hE
 ·rw[hx];exact h.hs
 ·rw[hc,hx]
 ·rw[hx,h.cm]
 ·rw[hc,hx]
 ·rw[hx]
  intro o ho
  rcases List.mem_append.1 ho with ho|ho
  ·exact h.fit o ho
  ·obtain rfl:=List.mem_singleton.1 ho
   exact hfit
 ·rw[hx]
  show(x.came++[_]).length≤_
  rw[List.length_append,List.length_singleton]
  omega
theorem TG{x:CX}{p:List UInt8}{refs:List (List UInt8)}{l:List Node}{t:List UInt8}(h1:dG x p=0)(h2:bH l= -1)(h3:dB refs=true)(h4:∀y∈refs,y=p∨(aA x.has y).isSome=true∨(aA x.came y).isSome=true)(h5:∀y∈refs,y.length≤12)
 (h6:dU {x.start p with refs:=refs} l t=0):Qz x ⟨p,l,refs⟩:=by
 obtain⟨g1,g2⟩:=uJ h1
 obtain⟨-,g3,g4⟩:=BN h6
 exact⟨g1,g2,h2,h3,h4,h5,g3,g4⟩
theorem QM{p:List UInt8}{refs:List (List UInt8)}{l:List Node}(h2:bH l= -1)(h5:∀y∈refs,y.length≤12)(h6:refs.length≤549755813888):mM ⟨p,l,refs⟩:=
 ⟨BO h2,Nat.le_trans (nI h2).2.2 (by omega),Nat.le_trans h6 (by omega),fun r hr=>Nat.le_trans (h5 r hr) (by omega)⟩
theorem xI{R:RE CX}{has:aH}{S:List UInt8}{q:RQ}{f:Nat}{x:CX}{L came:aH}{fresh:List (List UInt8)}(h:BR R has S q f x L came fresh):Ih has came (L,fresh):=by
 have h1:=tK h.ok x.came.length (Nat.le_refl _)
 rw[List.take_length,h.hs,←h.cm] at h1
 have e1:(L,fresh)=bG has came:=by rw[h.l,h.fr,h.cm]
 rw[e1]
 exact h1
theorem Xt{R:RE CX}{has:aH}{S:List UInt8}{q q':RQ}{f:Nat}{x:CX}{L came:aH}{fresh:List (List UInt8)}(h:BR R has S q f x L came fresh){p t:List UInt8}{refs:List (List UInt8)}{l:List Node}(hf:aA L p=none)(p0:Int):
 (q'.aO (if t≠(sumOf (aJ l)).data.toList then 16 else 0) p0).aO (if L.length=10 then 14 else 0) p0=q'.aO (dU {x.start p with refs:=refs} l t) p0:=by
 have hc:=xI h
 have hn:aA has p=none:=by
  cases hx:aA has p with
  |none=>rfl
  |some o=>
   have:=(hc.some p).2 (.inl (by rw[hx];rfl))
   simp only[hf] at this
   cases this
 have hl:L.length=has.length+jZ {x.start p with refs:=refs}:=by
  have h1:=hc.len
  simp only at h1
  rw[h1]
  show _=has.length+x.came.countP (fun e=>(aA x.has e.path).isNone)
  rw[h.hs,h.cm]
 rw[zQ]
 have h3:=zS {x.start p with refs:=refs} l t (if t≠(sumOf (aJ l)).data.toList then 16 else 0) 0 (if L.length=10 then 14 else 0) rfl (by
  show(0:Int)=match aA x.has p with | .some o=>_ | .none=>0
  rw[h.hs,hn]) (by
  show(if L.length=10 then (14:Int) else 0)=match aA x.has p with | .some _=>0 | .none=>if x.has.length+jZ {x.start p with refs:=refs}=10 then 14 else 0
  rw[h.hs,hn,hl])
 rw[←h3]
 congr 1
 by_cases he:(if t≠(sumOf (aJ l)).data.toList then (16:Int) else 0)=0
 ·rw[he];simp
 ·simp only[if_neg he]
theorem Xu{R:RE CX}{has:aH}{S:List UInt8}{q q':RQ}{f:Nat}{x:CX}{L came:aH}{fresh:List (List UInt8)}(h:BR R has S q f x L came fresh){p t:List UInt8}{refs:List (List UInt8)}{l:List Node}{o:dI}(ho:o∈L)(hop:o.path=p)(hp:dG x p=0)(p0:Int):
 (q'.aO (if t≠(sumOf (aJ l)).data.toList then 16 else 0) p0).aO (if jM o ⟨p,l,refs⟩ then 0 else 12) p0=q'.aO (dU {x.start p with refs:=refs} l t) p0:=by
 have hc:=xI h
 have hcn:=(uJ hp).2
 have hoh:o∈has:=by
  rcases hc.mem o ho with g|g
  ·exact g
  ·rw[h.cm] at g
   exact absurd hop (gB.1 hcn o g)
 have hn:aA has p=some o:=by
  have hok:bK has:=by rw[←h.hs];exact h.ok.has
  cases hx:aA has p with
  |none=>exact absurd hop (gB.1 hx o hoh)
  |some o'=>
   obtain⟨g1,g2⟩:=jV hx
   rw[hok.uniq g1 hoh (g2.trans hop.symm)]
 rw[zQ]
 have h3:=zS {x.start p with refs:=refs} l t (if t≠(sumOf (aJ l)).data.toList then 16 else 0) (if jM o ⟨p,l,refs⟩ then 0 else 12) 0 rfl (by
  show(if jM o ⟨p,l,refs⟩ then (0:Int) else 12)=match aA x.has p with | .some o=>if jM o (({x.start p with refs:=refs}:CX).ent l) then 0 else 12 | .none=>0
  rw[h.hs,hn]
  rfl) (by
  show(0:Int)=match aA x.has p with | .some _=>0 | .none=>_
  rw[h.hs,hn])
 rw[←h3]
 congr 1
 by_cases he:(if t≠(sumOf (aJ l)).data.toList then (16:Int) else 0)=0
 ·rw[he]
  by_cases h2:jM o ⟨p,l,refs⟩=true <;> simp[h2]
 ·simp only[if_neg he]
theorem IJ{R:RE CX}{has:aH}{S:List UInt8}{q q12 Nu:RQ}{f:Nat}{x:CX}{L came:aH}{fresh:List (List UInt8)}{p:List UInt8}{refs:List (List UInt8)}{t:List UInt8}{p0:Int}(h:BR R has S q (f+1) x L came fresh)
 (hst:Stat S q12 R (if dU {x.start p with refs:=refs} q12.l t≠0 then .error (dU {x.start p with refs:=refs} q12.l t,p0) else (pI f (({x.start p with refs:=refs}:CX).put q12.l) (q12.rs S)).bind zO))
 (hq:Nu=q12.aO (dU {x.start p with refs:=refs} q12.l t) p0) (h1:dG x p=0) (h2:bH q12.l= -1) (h3:dB refs=true) (h4:∀y∈refs,y=p∨(aA x.has y).isSome=true∨(aA x.came y).isSome=true) (h5:∀y∈refs,y.length≤12) (h6:refs.length≤549755813888)
 (hat:q.at'+1≤q12.at') (hle:q12.at'≤S.length):
 (Nu.e≠0∧R=.error (Nu.e,Nu.bad))∨BR R has S Nu f (({x.start p with refs:=refs}:CX).put q12.l) (tJ (L,fresh) ⟨p,q12.l,refs⟩).1 (came++[⟨p,q12.l,refs⟩]) (tJ (L,fresh) ⟨p,q12.l,refs⟩).2:=by
 have hs:=A8 hst
 have hla:=o7 q12 (dU {x.start p with refs:=refs} q12.l t) p0
 rw[←hq] at hs hla
 have hrs:Nu.rs S=q12.rs S:=by rw[hq];exact PG _ _ _ _
 by_cases he:Nu.e=0
 ·right
  rw[←hrs] at hs
  exact TF h he hs (TG h1 h2 h3 h4 h5 (hla.2.2 he).2) (QM h2 h5 h6) (by omega) (by omega)
 ·exact .inl ⟨he,hs.2 he⟩
end Go.Proofs.YtdkogijdfgfpeaaGreatDoor

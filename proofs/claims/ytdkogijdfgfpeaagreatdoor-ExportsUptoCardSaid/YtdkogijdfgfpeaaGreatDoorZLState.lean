/- The law's World in memory, as parts that lie apart. -/
import Derived.Test.YtdkogijdfgfpeaaGreatDoorZMem
import Derived.Test.YtdkogijdfgfpeaaGreatDoorZMap
import Derived.Test.YtdkogijdfgfpeaaGreatDoorZStr
import Derived.Test.YtdkogijdfgfpeaaGreatDoorZPackw
import Derived.Lib.Hide
set_option linter.unusedVariables false
namespace Go.Proofs.YtdkogijdfgfpeaaGreatDoor
open Go Go.RowKit
set_option maxHeartbeats 1600000
set_option maxRecDepth 100000
abbrev x9:TypeId:=73
abbrev ji:TypeId:=132
abbrev TNS:TypeId:=36
abbrev iw:TypeId:=9
abbrev uQ:TypeId:=49
abbrev oH:TypeId:=26
abbrev uY:TypeId:=50
structure Pr where
 x:Nat
 s:Nat
 r:Nat
 F:Nat→Prop
 G:Nat→Prop
 L:aH
structure Yy(w:World)(p:Pr):Prop where
 box:aS w p.x #[pv p.s] TNS
 nF:¬p.F p.x
 nG:¬p.G p.x
 FG:∀k,p.F k→¬p.G k
 st:aU w p.F p.s p.L
 qt:CO w p.G p.r p.L
def bF(p:Pr):Part where
 S:=fun k=>k=p.x∨p.F k∨p.G k
 A:=fun w=>Yy w p
 st:=fun w w' S h k hs=>⟨h.box.keeps k (hs _ (.inl rfl)),h.nF,h.nG,h.FG,h.st.keeps k fun b hb=>hs b (.inr (.inl hb)),h.qt.keeps k fun b hb=>hs b (.inr (.inr hb))⟩
 lt:=fun w h k hk=>by
  rcases hk with rfl|hk|hk
  ·exact h.box.lt
  ·exact h.st.lt k hk
  ·exact h.qt.lt k hk
def dY(W0:World):Part where
 S:=fun k=>k<W0.heap.size
 A:=fun w=>Below W0.heap.size W0 w
 st:=fun w w' S h k hs=>⟨k.os.trans h.os,k.tape.trans h.tape,k.output.trans h.output,Nat.le_trans h.size k.size,fun j hj=>(k.block j (Nat.lt_of_lt_of_le hj h.size) (hs j hj)).trans (h.block j hj)⟩
 lt:=fun w h k hk=>Nat.lt_of_lt_of_le hk h.size
def gV(k:Nat):List UInt8:=[109,105,110,101,UInt8.ofNat (k % 256),UInt8.ofNat (k / 256 % 256),UInt8.ofNat (k / 65536)]
def vS(k:Nat)(x:Value×Nat):Part:=aG iw 1 x.1 x.2 (List.replicate x.2 (sv (gV k)))
def uw(k:Nat)(x:Value×Nat):Part:=aG uQ 3 x.1 x.2 (ak (List.replicate x.2 ⟨gV k,0,[]⟩))
def fV:Nat→List (Value×Nat)→List Part
 |_,[]=>[]
 |k,x :: r=>vS k x :: fV (k+1) r
def fZ:Nat→List (Value×Nat)→List Part
 |_,[]=>[]
 |k,x :: r=>uw k x :: fZ (k+1) r
theorem y8:∀(l:List (Value×Nat)) (k:Nat) (x:Value×Nat),fV k (l++[x])=fV k l++[vS (k+l.length) x]
 | [],k,x=>rfl
 |y :: r,k,x=>by
  show vS k y :: fV (k+1) (r++[x])=vS k y :: (fV (k+1) r++[_])
  rw[y8 r (k+1) x,List.length_cons,show k+1+r.length=k+(r.length+1) by omega]
theorem y9:∀(l:List (Value×Nat)) (k:Nat) (x:Value×Nat),fZ k (l++[x])=fZ k l++[uw (k+l.length) x]
 | [],k,x=>rfl
 |y :: r,k,x=>by
  show uw k y :: fZ (k+1) (r++[x])=uw k y :: (fZ (k+1) r++[_])
  rw[y9 r (k+1) x,List.length_cons,show k+1+r.length=k+(r.length+1) by omega]
theorem Bz:∀(l:List (Value×Nat)) (k i:Nat) (x:Value×Nat),l[i]? =some x→vS (k+i) x∈fV k l
 | [],k,i,x,h=>by simp at h
 |y :: r,k,0,x,h=>by
  simp only[List.getElem?_cons_zero,Option.some.injEq] at h
  subst h
  exact List.mem_cons_self ..
 |y :: r,k,i+1,x,h=>by
  have:=Bz r (k+1) i x (by simpa using h)
  rw[show k+1+i=k+(i+1) by omega] at this
  exact List.mem_cons_of_mem _ this
theorem BA:∀(l:List (Value×Nat)) (k i:Nat) (x:Value×Nat),l[i]? =some x→uw (k+i) x∈fZ k l
 | [],k,i,x,h=>by simp at h
 |y :: r,k,0,x,h=>by
  simp only[List.getElem?_cons_zero,Option.some.injEq] at h
  subst h
  exact List.mem_cons_self ..
 |y :: r,k,i+1,x,h=>by
  have:=BA r (k+1) i x (by simpa using h)
  rw[show k+1+i=k+(i+1) by omega] at this
  exact List.mem_cons_of_mem _ this
structure LD where
 b:Nat
 Gf:Value
 I8:Value
 zf:Value
 CP:Value
 ps:List Pr
 bs:List (List UInt8)
 ls:List (Value×Nat)
 ts:List (Value×Nat)
def bZ(l:List Pr):List Value:=l.flatMap fun p=>[pv p.x,pv p.r]
theorem lu(a b:List Pr):bZ (a++b)=bZ a++bZ b:=by simp[bZ]
theorem jW:∀(l:List Pr) (k:Nat) (p:Pr),l[k]? =some p→(bZ l)[k*2]? =some (pv p.x)∧(bZ l)[k*2+1]? =some (pv p.r)
 | [],k,p,h=>by simp at h
 |y :: r,0,p,h=>by
  simp only[List.getElem?_cons_zero,Option.some.injEq] at h
  subst h
  exact⟨rfl,rfl⟩
 |y :: r,k+1,p,h=>by
  have:=jW r k p (by simpa using h)
  have e:bZ (y :: r)=pv y.x :: pv y.r :: bZ r:=rfl
  rw[e,show(k+1)*2=k*2+1+1 by omega]
  exact this
def gu(D:LD):Array Value:=#[D.Gf,D.I8,D.zf,D.CP,.bool false]
def jy(D:LD):List Part:=
 [aj D.b (gu D) x9,aG ji 2 D.Gf D.ps.length (bZ D.ps),aG iw 1 D.I8 D.bs.length (bf D.bs),
  aG oH 1 D.zf D.ls.length (D.ls.map Prod.fst),aG uY 1 D.CP D.ts.length (D.ts.map Prod.fst)]
def au(D:LD):List Part:=jy D++(D.ps.map bF++(fV 0 D.ls++fZ 0 D.ts))
theorem Parts.sub{ps qs:List Part}{w:World}(h:Parts ps w)(hs:qs.Sublist ps):Parts qs w:=⟨fun p hp=>h.all p (hs.subset hp),h.sep.sublist hs⟩
theorem Parts.mid{p q:Part}{l1 l2:List Part}{w w':World}(h:Parts (l1++p :: l2) w)(hq:q.A w')(k:Keeps p.S w w')(hs:∀j,q.S j→p.S j∨w.heap.size≤j):Parts (l1++q :: l2) w':=
 ((h.perm (List.perm_middle.symm)).turn hq k hs).perm List.perm_middle
theorem Parts.Yz{p:Part}{l1 l2:List Part}{w:World}(h:Parts (l1++p :: l2) w):p.A w:=h.all p (by simp)
theorem dR{X:List Part}{D:LD}{w:World}(h:Parts (X++au D) w):aS w D.b (gu D) x9:=h.all (aj D.b (gu D) x9) (by simp[au,jy])
theorem uy{X:List Part}{D:LD}{w:World}(h:Parts (X++au D) w):Sl w 0 ji 2 D.Gf D.ps.length (bZ D.ps):=h.all (aG ji 2 D.Gf D.ps.length (bZ D.ps)) (by simp[au,jy])
theorem I9{X:List Part}{D:LD}{w:World}(h:Parts (X++au D) w):Sl w 0 oH 1 D.zf D.ls.length (D.ls.map Prod.fst):=h.all (aG oH 1 D.zf D.ls.length (D.ls.map Prod.fst)) (by simp[au,jy])
theorem Ja{X:List Part}{D:LD}{w:World}(h:Parts (X++au D) w):Sl w 0 uY 1 D.CP D.ts.length (D.ts.map Prod.fst):=h.all (aG uY 1 D.CP D.ts.length (D.ts.map Prod.fst)) (by simp[au,jy])
theorem lX{X:List Part}{D:LD}{w:World}(h:Parts (X++au D) w){p:Pr}(hp:p∈D.ps):Yy w p:=h.all (bF p) (by simp only[au,List.mem_append,List.mem_map];exact .inr (.inr (.inl ⟨p,hp,rfl⟩)))
def LD.jl(D:LD)(vls' v':Value)(n:Nat):LD:={D with zf:=vls',ls:=D.ls++[(v',n)]}
def LD.ny(D:LD)(vts' v':Value)(n:Nat):LD:={D with CP:=vts',ts:=D.ts++[(v',n)]}
theorem Q9{X:List Part}{D:LD}{w w4:World}{v' vls':Value}{n:Nat}(h:Parts (aG iw 1 v' n (List.replicate n (sv (gV D.ls.length))) :: (X++au D)) w)
 (h4:Sl w4 0 oH 1 vls' (D.ls.length+1) (D.ls.map Prod.fst++[v'])) (k4:Keeps (jC D.zf) w w4) (ho:vls'.ownBlock=D.zf.ownBlock∨∃b,vls'.ownBlock=some b∧w.heap.size≤b):
 Parts (X++au (D.jl vls' v' n)) (w4.setCell ⟨D.b,2,none⟩ vls'):=by
 have h1:Parts ((aG iw 1 v' n (List.replicate n (sv (gV D.ls.length))) :: (X++[aj D.b (gu D) x9,aG ji 2 D.Gf D.ps.length (bZ D.ps),aG iw 1 D.I8 D.bs.length (bf D.bs)]))++
  aG oH 1 D.zf D.ls.length (D.ls.map Prod.fst) :: ([aG uY 1 D.CP D.ts.length (D.ts.map Prod.fst)]++(D.ps.map bF++(fV 0 D.ls++fZ 0 D.ts)))) w:=by
  simpa [au,jy] using h
 have h2:=h1.mid (q:=aG oH 1 vls' (D.ls.length+1) (D.ls.map Prod.fst++[v'])) h4 k4 (fun j hj=>by
  rcases ho with ho|⟨b,hb,hge⟩
  ·exact .inl (by show D.zf.ownBlock=some j;rw[←ho];exact hj)
  ·right
   have:some b=some j:=hb.symm.trans hj
   cases this
   exact hge)
 have h3:Parts ((aG iw 1 v' n (List.replicate n (sv (gV D.ls.length))) :: X)++aj D.b (gu D) x9 :: ([aG ji 2 D.Gf D.ps.length (bZ D.ps),aG iw 1 D.I8 D.bs.length (bf D.bs)]++
  aG oH 1 vls' (D.ls.length+1) (D.ls.map Prod.fst++[v']) :: ([aG uY 1 D.CP D.ts.length (D.ts.map Prod.fst)]++(D.ps.map bF++(fV 0 D.ls++fZ 0 D.ts))))) w4:=by
  simpa using h2
 have hb:aS w4 D.b (gu D) x9:=h3.Yz
 have h5:=h3.mid (q:=aj D.b (gu (D.jl vls' v' n)) x9) (w':=w4.setCell ⟨D.b,2,none⟩ vls') (hb.set 2 vls') ((Keeps.refl _ _).setCell _ _ (.inl rfl)) (fun j hj=>.inl hj)
 refine h5.perm ?_
 have e:fV 0 (D.ls++[(v',n)])=fV 0 D.ls++[vS D.ls.length (v',n)]:=by rw[y8,Nat.zero_add]
 have e2:∀(a b c d:List Part) (p:Part),List.Perm (p :: a++b) (a++(c++(p :: d)))↔List.Perm (a++b) (a++(c++d)):=by
  intro a b c d p
  constructor
  ·intro hp
   have:List.Perm (a++(c++(p :: d))) (p :: (a++(c++d))):=by
    rw[←List.append_assoc,←List.append_assoc]
    exact List.perm_middle
   exact(List.perm_cons p).1 (hp.trans this)
  ·intro hp
   have:List.Perm (a++(c++(p :: d))) (p :: (a++(c++d))):=by
    rw[←List.append_assoc,←List.append_assoc]
    exact List.perm_middle
   exact(List.Perm.cons p hp).trans this.symm
 have e3:X++au (D.jl vls' v' n)=X++(([aj D.b (gu (D.jl vls' v' n)) x9,aG ji 2 D.Gf D.ps.length (bZ D.ps),aG iw 1 D.I8 D.bs.length (bf D.bs),aG oH 1 vls' (D.ls.length+1) (D.ls.map Prod.fst++[v']),aG uY 1 D.CP D.ts.length (D.ts.map Prod.fst)]++(D.ps.map bF++fV 0 D.ls))++(vS D.ls.length (v',n) :: fZ 0 D.ts)):=by
  simp[au,jy,LD.jl,e]
 rw[e3]
 refine((e2 X _ _ _ _).2 ?_).symm
 simp
theorem Rf{X:List Part}{D:LD}{w w4:World}{v' vts':Value}{n:Nat}(h:Parts (aG uQ 3 v' n (ak (List.replicate n ⟨gV D.ts.length,0,[]⟩)) :: (X++au D)) w)
 (h4:Sl w4 0 uY 1 vts' (D.ts.length+1) (D.ts.map Prod.fst++[v'])) (k4:Keeps (jC D.CP) w w4) (ho:vts'.ownBlock=D.CP.ownBlock∨∃b,vts'.ownBlock=some b∧w.heap.size≤b):
 Parts (X++au (D.ny vts' v' n)) (w4.setCell ⟨D.b,3,none⟩ vts'):=by
 have h1:Parts ((aG uQ 3 v' n (ak (List.replicate n ⟨gV D.ts.length,0,[]⟩)) :: (X++[aj D.b (gu D) x9,aG ji 2 D.Gf D.ps.length (bZ D.ps),aG iw 1 D.I8 D.bs.length (bf D.bs),aG oH 1 D.zf D.ls.length (D.ls.map Prod.fst)]))++
  aG uY 1 D.CP D.ts.length (D.ts.map Prod.fst) :: (D.ps.map bF++(fV 0 D.ls++fZ 0 D.ts))) w:=by
  simpa [au,jy] using h
 have h2:=h1.mid (q:=aG uY 1 vts' (D.ts.length+1) (D.ts.map Prod.fst++[v'])) h4 k4 (fun j hj=>by
  rcases ho with ho|⟨b,hb,hge⟩
  ·exact .inl (by show D.CP.ownBlock=some j;rw[←ho];exact hj)
  ·right
   have:some b=some j:=hb.symm.trans hj
   cases this
   exact hge)
 have h3:Parts ((aG uQ 3 v' n (ak (List.replicate n ⟨gV D.ts.length,0,[]⟩)) :: X)++aj D.b (gu D) x9 :: ([aG ji 2 D.Gf D.ps.length (bZ D.ps),aG iw 1 D.I8 D.bs.length (bf D.bs),aG oH 1 D.zf D.ls.length (D.ls.map Prod.fst)]++
  aG uY 1 vts' (D.ts.length+1) (D.ts.map Prod.fst++[v']) :: (D.ps.map bF++(fV 0 D.ls++fZ 0 D.ts)))) w4:=by
  simpa using h2
 have hb:aS w4 D.b (gu D) x9:=h3.Yz
 have h5:=h3.mid (q:=aj D.b (gu (D.ny vts' v' n)) x9) (w':=w4.setCell ⟨D.b,3,none⟩ vts') (hb.set 3 vts') ((Keeps.refl _ _).setCell _ _ (.inl rfl)) (fun j hj=>.inl hj)
 refine h5.perm ?_
 have e:fZ 0 (D.ts++[(v',n)])=fZ 0 D.ts++[uw D.ts.length (v',n)]:=by rw[y9,Nat.zero_add]
 have e3:X++au (D.ny vts' v' n)=(X++([aj D.b (gu (D.ny vts' v' n)) x9,aG ji 2 D.Gf D.ps.length (bZ D.ps),aG iw 1 D.I8 D.bs.length (bf D.bs),aG oH 1 D.zf D.ls.length (D.ls.map Prod.fst),aG uY 1 vts' (D.ts.length+1) (D.ts.map Prod.fst++[v'])]++(D.ps.map bF++(fV 0 D.ls++fZ 0 D.ts))))++[uw D.ts.length (v',n)]:=by
  simp[au,jy,LD.ny,e]
 rw[e3]
 refine List.Perm.trans List.perm_append_comm ?_
 simp[uw]
theorem Aw{P:Program}(t e:TypeId)(ht:P.underlying t=some (.slice e))(he:P.underlying e=some (.int .u8))(dst:TypeId)(hd:P.underlying dst=some .string)(E:TypeId)(w:World)(x y z:Int):
 (convert t dst (.slice (some ⟨w.heap.size,0,none⟩) 3 3)).run P (w.alloc (.cells #[.int .u8 x,.int .u8 y,.int .u8 z] E))=.ok (.string ⟨#[UInt8.ofNat x.toNat,UInt8.ofNat y.toNat,UInt8.ofNat z.toNat]⟩) (w.alloc (.cells #[.int .u8 x,.int .u8 y,.int .u8 z] E)):=by
 rw[run_convert_bytes_arg (w.alloc (.cells #[.int .u8 x,.int .u8 y,.int .u8 z] E)) t e ht he w.heap.size 0 3 3 [x,y,z] rfl (fun i hi=>by
  rcases (by omega:i=0∨i=1∨i=2) with rfl|rfl|rfl <;> simp) dst hd]
 rfl
theorem zh(k:Nat)(w:World)(hk:k≤1000000):
 Calls Tryz.prog 71 #[.int .i64 k] w fun e w'=>e=.returned (sv (gV k))∧Keeps Non w w':=by
 have kc:=fun(w:World) (x y z:Int)=>Aw (P:=Tryz.prog) 45 5 Tryz.underlying45 Tryz.underlying5 9 Tryz.underlying9 5 w x y z
 go_enter Tryz.func71,Tryz.ntmps71
 go_wp2
 go_ret
 exact⟨rfl,(Keeps.refl _ _).alloc _⟩
theorem nC(k:Int)(w:World)(h1: -9223372036854775808≤k)(h2:k≤9223372036854775807):
 Calls Tryz.prog 31 #[.int .i64 k] w fun e w'=>e=.returned (.int .i64 (if k≤5 then 3 else 4))∧w=w':=by
 by_cases h:k≤5
 ·have g:=decide_eq_true h
  go_enter Tryz.func31,Tryz.ntmps31
  go_wp2_with fail
  go_ret
  exact⟨rfl,rfl⟩
 ·have g:=decide_eq_false h
  go_enter Tryz.func31,Tryz.ntmps31
  go_wp2_with fail
  go_ret
  exact⟨rfl,rfl⟩
def DF(c n:Int):Int:=(if c<0 then -(c+1) else c) % n
theorem pick_any(c n:Int)(w:World)(hc1: -9223372036854775808≤c)(hc2:c≤9223372036854775807)(hn:0<n)(hn2:n≤1000000):
 Calls Tryz.prog 60 #[.int .i64 c,.int .i64 n] w fun e w'=>e=.returned (.int .i64 (DF c n))∧w=w':=by
 by_cases h:c<0
 ·have HP:Hid (DF c n=(-(c+1)) % n):=by show _=_;rw[DF,if_pos h]
  have hz:¬n=0:=by omega
  go_enter Tryz.func60,Tryz.ntmps60
  go_wp2_with fail
  go_ret
  exact⟨jU (by rw[HP.out,←Int.neg_tmod,Int.tmod_eq_emod_of_nonneg (by omega)]),rfl⟩
 ·have HP:Hid (DF c n=c % n):=by show _=_;rw[DF,if_neg h]
  have h0:0≤c:=by omega
  have hz:¬n=0:=by omega
  go_enter Tryz.func60,Tryz.ntmps60
  go_wp2_with fail
  go_ret
  exact⟨jU HP.out.symm,rfl⟩
theorem jX(c n:Int)(hn:0<n):∃k:Nat,DF c n=k∧(k:Int)<n:=by
 unfold DF
 refine⟨((if c<0 then -(c+1) else c) % n).toNat,?_,?_⟩
 ·rw[Int.toNat_of_nonneg (Int.emod_nonneg _ (by omega))]
 ·rw[Int.toNat_of_nonneg (Int.emod_nonneg _ (by omega))]
  exact Int.emod_lt_of_pos _ hn
theorem Jb(w:World)(hT:kV≤w.heap.size):
 Calls Tryz.prog 20 #[] w fun e w'=>∃x s F,e=.returned (pv x)∧w.heap.size≤x∧aS w' x #[pv s] 36∧aU w' F s []∧(∀k,F k→w.heap.size≤k)∧¬F x∧Keeps Non w w':=by
 go_enter Tryz.func20,Tryz.ntmps20
 go_wp2_with fail
 refine(new_any w hT).mono ?_
 rintro e w1 ⟨s,rfl,hs,h1,hk1⟩
 have H1:=Lib.hid h1
 have iy:=Lib.hid hk1
 clear h1 hk1
 unfold pv
 go_wp2_with fail
 go_ret
 refine⟨w1.heap.size,s,_,rfl,iy.out.size,aS.new _ _ _,H1.out.non ((Keeps.refl _ _).alloc _),fun k hk=>hk.1,fun h=>by have:=h.2;omega,iy.out.alloc _⟩
theorem Rh:(Tryz.prog.info? 26).map (fun i=>(i.zero,i.size,i.bytes))=some (some (.slice none 0 0),1,24):=by kernel_rfl
theorem GV{α:Type}{m:α}{n k:Nat}{xs:List α}(hl:xs.length=n)(hk:k<n):(List.replicate k m++xs.drop k).set k m=List.replicate (k+1) m++xs.drop (k+1):=by
 rw[List.set_append_right _ _ (by simp),List.length_replicate,Nat.sub_self,List.drop_eq_getElem_cons (by omega),List.set_cons_zero,List.replicate_succ',List.append_assoc]
 rfl
theorem sV(X:List Part)(D:LD)(w:World)(v:Value)(n:Nat)(xs:List Value)(h:Parts (aG iw 1 v n xs :: (X++au D)) w)(hn:n≤1099511627776)(hnl:D.ls.length≤1000000):
 Calls Tryz.prog 63 #[pv D.b,v] w fun e w'=>e=.returned (.tuple #[])∧∃vls' v',Parts (X++au (D.jl vls' v' (n+2))) w':=by
 have HP:=Lib.hid h
 have hv:Sl w 0 iw 1 v n xs:=h.head
 obtain⟨va,vc,rfl,hc1,hc2⟩:=hv.shape
 have hXL:xs.length=n:=by have:=hv.len;omega
 have HXL:=Lib.hid hXL
 clear hXL
 have hb:=dR (X:=aG iw 1 _ _ _ :: X) h
 have hls:=I9 (X:=aG iw 1 _ _ _ :: X) h
 obtain⟨la,lc,hlv,hc3,hc4⟩:=hls.shape
 have c2:w.cell? ⟨D.b,2,none⟩=some (.slice la D.ls.length lc):=by rw[←hlv];exact hb.cell 2
 unfold maxLen at hc2 hc4
 have U8:=Lib.hid hlv
 clear h hv hb hls hlv
 unfold pv
 go_enter Tryz.func63,Tryz.ntmps63
 go_wp2_with fail
 refine(zh D.ls.length w hnl).mono ?_
 rintro e w1 ⟨rfl,hk1⟩
 have KE:Hid (Parts (aG iw 1 (.slice va n vc) n xs :: (X++au D)) w1):=HP.out.non hk1
 clear hk1 HP c2
 obtain⟨m,hm⟩:∃m,sv (gV D.ls.length)=m:=⟨_,rfl⟩
 have HM:=Lib.hid hm
 have hone:m.oneCell'=true:=by rw[←hm];rfl
 have hmk:∃b,m=.string b:=by rw[←hm];exact⟨_,rfl⟩
 obtain⟨mb,rfl⟩:=hmk
 rw[hm]
 clear hm
 go_wp2_with fail
 go_loopg [15] n (fun gk iv wr=>∃k:Nat,gk=n-k∧k≤n∧iv=.int .i64 k∧Hid (Parts (aG iw 1 (.slice va n vc) n (List.replicate k (.string mb)++xs.drop k) :: (X++au D)) wr))
 case atStart=>exact⟨0,rfl,Nat.zero_le _,rfl,by simpa using KE⟩
 case round=>
  clear KE
  obtain⟨k,rfl,hk,rfl,sF⟩:=hrel
  have hsl:Sl wr 0 iw 1 (.slice va n vc) n (List.replicate k (.string mb)++xs.drop k):=sF.out.head
  by_cases hlt:k<n
  ·obtain⟨b',o',c',hsh,-,-,-,kZ,hcc,hfz⟩:=hsl.pos (by omega)
   cases hsh
   have f0:=hfz (o'+k)
   obtain⟨u,hu⟩:∃u,(List.replicate k (Value.string mb)++xs.drop k)[k]? =some u:=⟨_,List.getElem?_eq_getElem (by rw[List.length_append,List.length_replicate,List.length_drop,HXL.out];omega)⟩
   have d0:wr.cell? ⟨b',o'+k,none⟩=some u:=(hcc k (by omega)).trans hu
   have QO:Hid (Parts (aG iw 1 (.slice (some ⟨b',o',none⟩) n vc) n (List.replicate (k+1) (.string mb)++xs.drop (k+1)) :: (X++au D)) (wr.setCell ⟨b',o'+k,none⟩ (.string mb))):=by
    refine sF.out.turn ?_ ((Keeps.refl _ _).setCell _ _ (.inl rfl)) fun j hj=>.inl hj
    show Sl _ _ _ _ _ _ _
    rw[←GV HXL.out hlt]
    exact hsl.set k (by omega) _
   clear hcc hfz hu hsl
   go_wp2_with fail
   go_roundg (n-(k+1))
   case measure=>omega
   case rel=>exact⟨k+1,rfl,by omega,by go_num,QO⟩
  ·have hk2:n=k:=by omega
   have hrep:List.replicate k (Value.string mb)++xs.drop k=List.replicate n (Value.string mb):=by
    rw[List.drop_eq_nil_of_le (by have:=HXL.out;omega),List.append_nil,hk2]
   rw[hrep] at hsl sF
   clear hrep
   subst hk2
   generalize wr=w2 at *
   obtain⟨i0,hi,hi0,hi1,hi2⟩:=info_parts lM
   go_wp2_with (at_builtin;refine ay rfl _ _ 26 26 rfl 9 i0 _ 1 16 Tryz.underlying26 hi hi0 hi1 hi2 rfl 0 _ _ _ rfl _ rfl 2 [.string mb,.string mb] ?d11 (hsl.alloc _) ?d12 ?d13 ?Gg ?_)
   try (case d11=>omega)
   case d12=>exact Src.kP Tryz.underlying26 (Sl.dM w2 0 (Nat.zero_le _) 9 1 2 [.string mb,.string mb] rfl (by simp[maxLen])) (by intro u hu;simp only[List.mem_cons,List.not_mem_nil,or_false] at hu;rcases hu with rfl|rfl <;> rfl)
   case d13=>unfold maxLen;omega
   case Gg=>omega
   intro ao cc w3 hs3 hk3 jY hb3
   have lQ:Hid (Parts (aG iw 1 (.slice ao (n+2) cc) (n+2) (List.replicate (n+2) (sv (gV D.ls.length))) :: (X++au D)) w3):=by
    refine(sF.out.non ((Keeps.refl _ _).alloc _)).turn (q:=aG iw 1 (.slice ao (n+2) cc) (n+2) (List.replicate (n+2) (sv (gV D.ls.length)))) ?_ jY fun j hj=>?_
    ·show Sl _ _ _ _ _ _ _
     rw[HM.out,←List.replicate_append_replicate]
     exact hs3
    ·rcases hb3 with h1|h1
     ·exact .inl (h1.symm.trans hj)
     ·right
      have:some _=some j:=h1.symm.trans hj
      cases this
      simp
   clear hs3 hk3 jY hb3 hsl sF hi hi0 hi1 hi2
   have hls:=I9 (X:=aG iw 1 _ _ _ :: X) lQ.out
   rw[U8.out] at hls
   have hb:=dR (X:=aG iw 1 _ _ _ :: X) lQ.out
   have c2:w3.cell? ⟨D.b,2,none⟩=some (.slice la D.ls.length lc):=by rw[←U8.out];exact hb.cell 2
   clear hb
   obtain⟨i1,hj,hj0,hj1,hj2⟩:=info_parts Rh
   go_wp2_with (at_builtin;refine ay rfl _ _ 27 27 rfl 26 i1 _ 1 24 Tryz.underlying27 hj hj0 hj1 hj2 rfl 0 _ _ _ rfl _ rfl 1 [.slice ao (n+2) cc] ?Om (hls.alloc _) ?Oo ?Oq ?Ot ?_)
   try (case Om=>omega)
   case Oo=>exact Src.kP Tryz.underlying27 (Sl.dM w3 0 (Nat.zero_le _) 26 1 1 [.slice ao (n+2) cc] rfl (by simp[maxLen])) (by intro u hu;simp only[List.mem_cons,List.not_mem_nil,or_false] at hu;rcases hu with rfl;rfl)
   case Oq=>unfold maxLen;omega
   case Ot=>omega
   intro ao4 cc4 w4 hs4 hk4 zi hb4
   have HB4:Hid (aS w4 D.b (gu D) x9):=by
    have h1:=dR (X:=aG iw 1 _ _ _ :: X) (lQ.out.non ((Keeps.refl Non _).alloc (.cells #[.slice ao (n+2) cc] 26)))
    exact h1.kp hk4 (.inr (by decide))
   have U9:Hid (Parts (X++au (D.jl (.slice ao4 (D.ls.length+1) cc4) (.slice ao (n+2) cc) (n+2))) (w4.setCell ⟨D.b,2,none⟩ (.slice ao4 (D.ls.length+1) cc4))):=
    Q9 (lQ.out.non ((Keeps.refl _ _).alloc _)) hs4 (by rw[U8.out];exact zi) (by
     rcases hb4 with h1|h1
     ·exact .inl (by rw[U8.out];exact h1)
     ·exact .inr ⟨_,h1,by simp⟩)
   have c2':w4.cell? ⟨D.b,2,none⟩=some D.zf:=HB4.out.cell 2
   have f2:=HB4.out.free 2
   clear hs4 hk4 zi hb4 hls lQ hj hj0 hj1 hj2 c2
   go_wp2_with fail
   go_end0
   exact⟨rfl,_,_,U9.out⟩
theorem Va:(Tryz.prog.info? 50).map (fun i=>(i.zero,i.size,i.bytes))=some (some (.slice none 0 0),1,24):=by kernel_rfl
theorem DI(l:List Node)(j:Nat)(hj:j<l.length)(X:Node):ak (l.set j X)=(((ak l).set (j*3) (sv X.path)).set (j*3+1) (.int .i64 X.kind)).set (j*3+2) (sv X.data):=by
 have e1:l.set j X=l.take j++(X :: l.drop (j+1)):=by rw[List.set_eq_take_append_cons_drop,if_pos hj]
 have e2:l=l.take j++(l[j] :: l.drop (j+1)):=by rw[←List.drop_eq_getElem_cons hj,List.take_append_drop]
 have hlen:(ak (l.take j)).length=j*3:=by rw[oK,List.length_take,Nat.min_eq_left (by omega)]
 rw[e1]
 conv=>rhs;rw[e2]
 rw[gW,gW]
 generalize ak (l.take j)=A at *
 show A++(sv X.path :: .int .i64 X.kind :: sv X.data :: ak (l.drop (j+1)))=(((A++(sv l[j].path :: .int .i64 l[j].kind :: sv l[j].data :: ak (l.drop (j+1)))).set (j*3) _).set (j*3+1) _).set (j*3+2) _
 rw[List.set_append_right _ _ (by omega),List.set_append_right _ _ (by omega),List.set_append_right _ _ (by omega),hlen,show j*3-j*3=0 by omega,show j*3+1-j*3=1 by omega,show j*3+2-j*3=2 by omega]
 rfl
theorem Keeps.agd(w:World)(b o n c i0 i1 i2:Nat)(u0 u1 u2:Value):Keeps (jC (.slice (some ⟨b,o,none⟩) n c)) w (((w.setCell ⟨b,i0,none⟩ u0).setCell ⟨b,i1,none⟩ u1).setCell ⟨b,i2,none⟩ u2):=
 (((Keeps.refl (jC (.slice (some ⟨b,o,none⟩) n c)) w).setCell ⟨b,i0,none⟩ u0 (.inl rfl)).setCell ⟨b,i1,none⟩ u1 (.inl rfl)).setCell ⟨b,i2,none⟩ u2 (.inl rfl)
theorem Az(X:List Part)(D:LD)(w:World)(v:Value)(l:List Node)(h:Parts (aG uQ 3 v l.length (ak l) :: (X++au D)) w)(hn:l.length≤1099511627776)(hnl:D.ts.length≤1000000):
 Calls Tryz.prog 62 #[pv D.b,v] w fun e w'=>e=.returned (.tuple #[])∧∃vts' v',Parts (X++au (D.ny vts' v' (l.length+2))) w':=by
 have HP:=Lib.hid h
 have hv:Sl w 0 uQ 3 v l.length (ak l):=h.head
 obtain⟨va,vc,rfl,hc1,hc2⟩:=hv.shape
 have hb:=dR (X:=aG uQ 3 _ _ _ :: X) h
 have hls:=Ja (X:=aG uQ 3 _ _ _ :: X) h
 obtain⟨la,lc,hlv,hc3,hc4⟩:=hls.shape
 have c2:w.cell? ⟨D.b,3,none⟩=some (.slice la D.ts.length lc):=by rw[←hlv];exact hb.cell 3
 unfold maxLen at hc2 hc4
 have U8:=Lib.hid hlv
 clear h hv hb hls hlv
 unfold pv
 go_enter Tryz.func62,Tryz.ntmps62
 go_wp2_with fail
 refine(zh D.ts.length w hnl).mono ?_
 rintro e w1 ⟨rfl,hk1⟩
 have KE:Hid (Parts (aG uQ 3 (.slice va l.length vc) l.length (ak l) :: (X++au D)) w1):=HP.out.non hk1
 clear hk1 HP c2
 obtain⟨m,hm⟩:∃m,sv (gV D.ts.length)=m:=⟨_,rfl⟩
 have HM:=Lib.hid hm
 have hmk:∃b,m=.string b:=by rw[←hm];exact⟨_,rfl⟩
 obtain⟨mb,rfl⟩:=hmk
 rw[hm]
 clear hm
 obtain⟨nb,hnb⟩:∃nb,w1.heap.size=nb:=⟨_,rfl⟩
 have HP2:Hid (Parts (aG uQ 3 (.slice va l.length vc) l.length (ak l) :: ((aj nb #[.string mb,.int .i64 0,.string ⟨#[]⟩] uQ :: X)++au D)) (w1.alloc (.cells #[.string mb,.int .i64 0,.string ⟨#[]⟩] uQ))):=by
  refine(Parts.add (q:=aj nb #[.string mb,.int .i64 0,.string ⟨#[]⟩] uQ) KE.out ?_ ((Keeps.refl _ _).alloc _) fun j hj=>by cases hj;omega).perm (List.Perm.swap ..)
  show aS _ _ _ _
  rw[←hnb]
  exact aS.new _ _ _
 clear KE
 go_wp2_with fail
 generalize w1.alloc (.cells #[.string mb,.int .i64 0,.string ⟨#[]⟩] 49)=w2 at *
 clear hnb
 go_loopg [16] l.length (fun gk iv wr=>∃k:Nat,gk=l.length-k∧k≤l.length∧iv=.int .i64 k∧Hid (Parts (aG uQ 3 (.slice va l.length vc) l.length (ak (List.replicate k ⟨gV D.ts.length,0,[]⟩++l.drop k)) :: ((aj nb #[.string mb,.int .i64 0,.string ⟨#[]⟩] uQ :: X)++au D)) wr))
 case atStart=>exact⟨0,rfl,Nat.zero_le _,rfl,by simpa using HP2⟩
 case round=>
  clear HP2
  obtain⟨k,rfl,hk,rfl,sF⟩:=hrel
  have hsl:Sl wr 0 uQ 3 (.slice va l.length vc) l.length (ak (List.replicate k ⟨gV D.ts.length,0,[]⟩++l.drop k)):=sF.out.head
  have hnb:aS wr nb #[.string mb,.int .i64 0,.string ⟨#[]⟩] uQ:=sF.out.all (aj nb _ uQ) (by simp)
  have n0:wr.cell? ⟨nb,0,none⟩=some (.string mb):=hnb.cell 0
  have n1:wr.cell? ⟨nb,1,none⟩=some (.int .i64 0):=hnb.cell 1
  have n2:wr.cell? ⟨nb,2,none⟩=some (.string ⟨#[]⟩):=hnb.cell 2
  clear hnb
  by_cases hlt:k<l.length
  ·obtain⟨b',o',c',hsh,-,-,-,kZ,hcc,hfz⟩:=hsl.pos (by omega)
   cases hsh
   have f0:=hfz (o'+k*3)
   have f1:=hfz (o'+k*3+1)
   have f2:=hfz (o'+k*3+2)
   have hlen:(ak (List.replicate k (⟨gV D.ts.length,0,[]⟩:Node)++l.drop k)).length=l.length*3:=hsl.len
   obtain⟨u0,hu0⟩:∃u,(ak (List.replicate k (⟨gV D.ts.length,0,[]⟩:Node)++l.drop k))[k*3]? =some u:=⟨_,List.getElem?_eq_getElem (by omega)⟩
   obtain⟨u1,hu1⟩:∃u,(ak (List.replicate k (⟨gV D.ts.length,0,[]⟩:Node)++l.drop k))[k*3+1]? =some u:=⟨_,List.getElem?_eq_getElem (by omega)⟩
   obtain⟨u2,hu2⟩:∃u,(ak (List.replicate k (⟨gV D.ts.length,0,[]⟩:Node)++l.drop k))[k*3+2]? =some u:=⟨_,List.getElem?_eq_getElem (by omega)⟩
   have d0:wr.cell? ⟨b',o'+k*3,none⟩=some u0:=(hcc (k*3) (by omega)).trans hu0
   have d1:wr.cell? ⟨b',o'+k*3+1,none⟩=some u1:=(hcc (k*3+1) (by omega)).trans hu1
   have d2:wr.cell? ⟨b',o'+k*3+2,none⟩=some u2:=(hcc (k*3+2) (by omega)).trans hu2
   have QO:Hid (Parts (aG uQ 3 (.slice (some ⟨b',o',none⟩) l.length vc) l.length (ak (List.replicate (k+1) ⟨gV D.ts.length,0,[]⟩++l.drop (k+1))) :: ((aj nb #[.string mb,.int .i64 0,.string ⟨#[]⟩] uQ :: X)++au D)) (((wr.setCell ⟨b',o'+k*3,none⟩ (.string mb)).setCell ⟨b',o'+k*3+1,none⟩ (.int .i64 0)).setCell ⟨b',o'+k*3+2,none⟩ (.string ⟨#[]⟩))):=by
    refine sF.out.turn ?_ (Keeps.agd wr b' o' l.length vc (o'+k*3) (o'+k*3+1) (o'+k*3+2) (.string mb) (.int .i64 0) (.string ⟨#[]⟩)) fun j hj=>.inl hj
    show Sl _ _ _ _ _ _ _
    rw[←GV rfl hlt,DI _ _ (by simp;omega)]
    have h1:=((hsl.set (k*3) (by omega) (.string mb)).set (k*3+1) (by omega) (.int .i64 0)).set (k*3+2) (by omega) (.string ⟨#[]⟩)
    rw[←HM.out] at h1 ⊢
    exact h1
   clear hcc hfz hu0 hu1 hu2 hsl hlen
   go_wp2_with fail
   go_roundg (l.length-(k+1))
   case measure=>omega
   case rel=>exact⟨k+1,rfl,by omega,by go_num,QO⟩
  ·obtain⟨n,hn2⟩:∃n,l.length=n:=⟨_,rfl⟩
   have hrep:List.replicate k (⟨gV D.ts.length,0,[]⟩:Node)++l.drop k=List.replicate n ⟨gV D.ts.length,0,[]⟩:=by
    rw[List.drop_eq_nil_of_le (by omega),List.append_nil,show k=n by omega]
   rw[hrep] at hsl sF
   obtain rfl:k=n:=by omega
   have Yo:=Lib.hid hn2
   simp only[hn2] at hsl sF hn hc1 hk
   rw[hn2]
   clear hrep hn2 hlt
   generalize wr=w3 at *
   obtain⟨i0,hi,hi0,hi1,hi2⟩:=info_parts I4
   have hr2:ak (List.replicate 2 (⟨gV D.ts.length,0,[]⟩:Node))=[.string mb,.int .i64 0,.string ⟨#[]⟩,.string mb,.int .i64 0,.string ⟨#[]⟩]:=by
    rw[←HM.out];rfl
   have HR2:=Lib.hid hr2
   clear hr2
   go_wp2_with (at_builtin;refine ay rfl _ _ 50 50 rfl 49 i0 _ 3 40 Tryz.underlying50 hi hi0 hi1 hi2 rfl 0 _ _ _ rfl _ rfl 2 [.string mb,.int .i64 0,.string ⟨#[]⟩,.string mb,.int .i64 0,.string ⟨#[]⟩] ?d11 (hsl.alloc _) ?d12 ?d13 ?Gg ?_)
   try (case d11=>omega)
   case d12=>exact Src.kP Tryz.underlying50 (Sl.dM w3 0 (Nat.zero_le _) 49 3 2 [.string mb,.int .i64 0,.string ⟨#[]⟩,.string mb,.int .i64 0,.string ⟨#[]⟩] rfl (by simp[maxLen])) (by intro u hu;simp only[List.mem_cons,List.not_mem_nil,or_false] at hu;rcases hu with rfl|rfl|rfl|rfl|rfl|rfl <;> rfl)
   case d13=>unfold maxLen;omega
   case Gg=>omega
   intro ao cc w4 hs3 hk3 jY hb3
   have lQ:Hid (Parts (aG uQ 3 (.slice ao (k+2) cc) (k+2) (ak (List.replicate (k+2) ⟨gV D.ts.length,0,[]⟩)) :: ((aj nb #[.string mb,.int .i64 0,.string ⟨#[]⟩] uQ :: X)++au D)) w4):=by
    refine(sF.out.non ((Keeps.refl _ _).alloc _)).turn (q:=aG uQ 3 (.slice ao (k+2) cc) (k+2) (ak (List.replicate (k+2) ⟨gV D.ts.length,0,[]⟩))) ?_ jY fun j hj=>?_
    ·show Sl _ _ _ _ _ _ _
     rw[←List.replicate_append_replicate,gW,HR2.out]
     exact hs3
    ·rcases hb3 with h1|h1
     ·exact .inl (h1.symm.trans hj)
     ·right
      have:some _=some j:=h1.symm.trans hj
      cases this
      simp
   clear hs3 hk3 jY hb3 hsl sF hi hi0 hi1 hi2 n0 n1 n2
   have hls:=Ja (X:=aG uQ 3 _ _ _ :: (aj nb _ uQ :: X)) lQ.out
   rw[U8.out] at hls
   have hb:=dR (X:=aG uQ 3 _ _ _ :: (aj nb _ uQ :: X)) lQ.out
   have c2:w4.cell? ⟨D.b,3,none⟩=some (.slice la D.ts.length lc):=by rw[←U8.out];exact hb.cell 3
   clear hb
   obtain⟨i1,hj,hj0,hj1,hj2⟩:=info_parts Va
   go_wp2_with (at_builtin;refine ay rfl _ _ 71 71 rfl 50 i1 _ 1 24 Tryz.underlying71 hj hj0 hj1 hj2 rfl 0 _ _ _ rfl _ rfl 1 [.slice ao (k+2) cc] ?Om (hls.alloc _) ?Oo ?Oq ?Ot ?_)
   try (case Om=>omega)
   case Oo=>exact Src.kP Tryz.underlying71 (Sl.dM w4 0 (Nat.zero_le _) 50 1 1 [.slice ao (k+2) cc] rfl (by simp[maxLen])) (by intro u hu;simp only[List.mem_cons,List.not_mem_nil,or_false] at hu;rcases hu with rfl;rfl)
   case Oq=>unfold maxLen;omega
   case Ot=>omega
   intro ao4 cc4 w5 hs4 hk4 zi hb4
   have HB4:Hid (aS w5 D.b (gu D) x9):=by
    have h1:=dR (X:=aG uQ 3 _ _ _ :: (aj nb _ uQ :: X)) (lQ.out.non ((Keeps.refl Non _).alloc (.cells #[.slice ao (k+2) cc] 50)))
    exact h1.kp hk4 (.inr (by decide))
   have U9:Hid (Parts (X++au (D.ny (.slice ao4 (D.ts.length+1) cc4) (.slice ao (k+2) cc) (l.length+2))) (w5.setCell ⟨D.b,3,none⟩ (.slice ao4 (D.ts.length+1) cc4))):=by
    rw[Yo.out]
    exact(Rf (lQ.out.non ((Keeps.refl _ _).alloc _)) hs4 (by rw[U8.out];exact zi) (by
     rcases hb4 with h1|h1
     ·exact .inl (by rw[U8.out];exact h1)
     ·exact .inr ⟨_,h1,by simp⟩)).tail
   have c2':w5.cell? ⟨D.b,3,none⟩=some D.CP:=HB4.out.cell 3
   have f2:=HB4.out.free 3
   clear hs4 hk4 zi hb4 hls lQ hj hj0 hj1 hj2 c2
   go_wp2_with fail
   go_end0
   exact⟨rfl,_,_,U9.out⟩
def hstep(x:Int)(b:UInt8):Int:=IntKind.u64.wrap (bits BinOp.xor IntKind.u64 x (IntKind.u64.wrap ↑b.toNat)*1099511628211)
def GX(l:List UInt8):Int:=l.foldl hstep 14695981039346656037
theorem take_snoc(s:ByteArray)(k:Nat)(h:k<s.size):s.data.toList.take (k+1)=s.data.toList.take k++[s[k]]:=by
 rw[List.take_succ_eq_append_getElem (by simpa using h)];rfl
theorem KF(s:ByteArray)(k:Nat)(h:¬k<s.size):s.data.toList.take k=s.data.toList:=by
 rw[List.take_of_length_le];simpa using h
theorem DJ(s:ByteArray)(k:Nat)(h:k<s.size):GX (s.data.toList.take (k+1))=hstep (GX (s.data.toList.take k)) s[k]:=by
 rw[take_snoc s k h];simp[GX]
def hbyte(x:Int)(k:Nat):Int:=x / 2 ^ (8*k) % 256
def Ou(x:Int)(j:Nat):List UInt8:=(List.range j).map fun k=>UInt8.ofNat (hbyte x k).toNat
def Gh(x:Int)(j:Nat):ByteArray:=⟨(Ou x j).toArray⟩
theorem Ri(x:Int)(j:Nat):Gh x j++⟨#[UInt8.ofNat (x / 2 ^ (8*j) % 256).toNat]⟩=Gh x (j+1):=by
 apply ByteArray.ext
 simp[Gh,Ou,List.range_succ,hbyte]
theorem Rj(x:Int)(j:Nat):(Gh x j).size=j:=by simp[Gh,Ou,ByteArray.size]
def sumOf(l:List UInt8):ByteArray:=Gh (GX l) 8
def qP(w:World)(b:Nat)(x:Int)(j:Nat):Prop:=∃c,aS w b c 5∧c.size=8∧∀i,i<j→c[i]? =some (.int .u8 (hbyte x i))
theorem qP.cell{w:World}{b:Nat}{x:Int}{j:Nat}(h:qP w b x j)(hj:j<8):∃v,w.cell? ⟨b,j,none⟩=some v:=by
 obtain⟨c,h1,h2,h3⟩:=h
 exact⟨c[j],by rw[h1.cell,Array.getElem?_eq_getElem (by omega)]⟩
theorem qP.free{w:World}{b:Nat}{x:Int}{j:Nat}(h:qP w b x j)(k:Nat):w.frozen? ⟨b,k,none⟩=false:=by
 obtain⟨c,h1,h2,h3⟩:=h
 exact h1.free _
theorem qP.set{w:World}{b:Nat}{x:Int}{j:Nat}(h:qP w b x j)(hj:j<8):qP (w.setCell ⟨b,j,none⟩ (.int .u8 (hbyte x j))) b x (j+1):=by
 obtain⟨c,h1,h2,h3⟩:=h
 refine⟨_,h1.set j _,by simpa using h2,fun i hi=>?_⟩
 by_cases e:i=j
 ·subst e;rw[Array.getElem?_setIfInBounds];simp;omega
 ·rw[Array.getElem?_setIfInBounds_ne (by omega)];exact h3 i (by omega)
theorem Rk(x:Int)(i:Nat):((UInt8.ofNat (hbyte x i).toNat).toNat:Int)=hbyte x i:=by
 have h0:0≤hbyte x i:=Int.emod_nonneg _ (by omega)
 have h1:hbyte x i<256:=Int.emod_lt_of_pos _ (by omega)
 rw[UInt8.toNat_ofNat'];omega
theorem qP.str{P:Program}{w:World}{b:Nat}{x:Int}(h:qP w b x 8){t e d:TypeId}(ht:P.underlying t=some (.slice e))(he:P.underlying e=some (.int .u8))(hd:P.underlying d=some .string):
 (convert t d (.slice (some ⟨b,0,none⟩) 8 8)).run P w=.ok (.string (Gh x 8)) w:=by
 obtain⟨c,h1,h2,h3⟩:=h
 refine rX (E:=5) (B:=0) t e ht he d hd (Ou x 8) ⟨by simp[bvs,Ou],.inr ⟨b,0,8,c,rfl,by omega,h1,by omega,by simp[maxLen],by omega,fun j hj=>?_⟩⟩
 have hj':j<8:=by omega
 rw[Nat.zero_add,h3 j hj',bvs,List.getElem?_map,Ou,List.getElem?_map,List.getElem?_range hj']
 exact congrArg (fun n=>some (Value.int .u8 n)) (Rk x j).symm
theorem sum_any(s:ByteArray)(w:World)(hs:s.size≤maxLen):
 Calls Tryz.prog 42 #[.string s] w fun e w'=>e=.returned (.string (sumOf s.data.toList))∧Keeps Non w w':=by
 unfold maxLen at hs
 go_enter Tryz.func42,Tryz.ntmps42
 go_wp2
 go_loop [3,9] (fun h i=>∃k:Nat,k≤s.size∧i=.int .i64 k∧∃x:Int,h=.int .u64 x∧Hid (x=GX (s.data.toList.take k))) (fun _ i=>s.size-(intOf i).toNat)
 case atStart=>exact⟨0,by omega,rfl,14695981039346656037,rfl,rfl⟩
 case round=>
  obtain⟨k,hk,rfl,x,rfl,hx⟩:=hrel
  by_cases hlt:k<s.size
  ·go_wp2
   go_round
   case rel=>exact⟨k+1,by omega,by go_num,_,rfl,by have:=DJ s k hlt;rw[←hx.out] at this;exact this.symm⟩
   case measure=>simp[intOf];omega
  ·have hmk:∀w,(Instr.makeSlice 45 (.int .i64 8) (.int .i64 8)).run Tryz.prog w=.ok (.slice (some ⟨w.heap.size,0,none⟩) 8 8) (w.alloc (.cells #[.int .u8 0,.int .u8 0,.int .u8 0,.int .u8 0,.int .u8 0,.int .u8 0,.int .u8 0,.int .u8 0] 5)):=fun _=>by kernel_rfl
   go_wp2
   clear hmk
   go_loopw [6,23] (fun _ i wr=>∃j:Nat,j≤8∧i=.int .i64 j∧qP wr w.heap.size x j∧Keeps Non w wr) (fun _ i _=>8-(intOf i).toNat)
   case atStart=>exact⟨0,by omega,rfl,⟨_,aS.new _ _ _,by simp,fun i hi=>by omega⟩,(Keeps.refl _ _).alloc _⟩
   case round=>
    obtain⟨j,hj,rfl,hrow,hkp⟩:=hrel
    by_cases hlt':j<8
    ·obtain⟨v,hc⟩:=hrow.cell hlt'
     have hf:=hrow.free j
     have HS:Hid (qP (wr.setCell ⟨w.heap.size,j,none⟩ (.int .u8 (hbyte x j))) w.heap.size x (j+1)):=hrow.set hlt'
     have HK:Hid (Keeps Non w (wr.setCell ⟨w.heap.size,j,none⟩ (.int .u8 (hbyte x j)))):=hkp.setCell _ _ (.inr (Nat.le_refl _))
     clear hkp hrow
     go_wp2
     go_roundw
     case rel=>exact⟨j+1,by omega,by go_num,HS.out,HK.out⟩
     case measure=>simp[intOf];omega
    ·obtain rfl:j=8:=by omega
     rw[KF s k hlt] at hx
     have hst:=hrow.str Tryz.underlying45 Tryz.underlying5 Tryz.underlying9
     have HK:=Lib.hid hkp
     clear hkp hrow
     go_wp2
     go_ret
     obtain rfl:=hx.out
     exact⟨rfl,HK.out⟩
theorem DK(s:ByteArray)(w:World)(hs:s.size≤maxLen):
 Calls Tryz.prog 107 #[.string s] w fun e w'=>e=.returned (.string (sumOf s.data.toList))∧Keeps Non w w':=by
 unfold maxLen at hs
 go_enter Tryz.func107,Tryz.ntmps107
 go_wp2
 go_loop [3,4] (fun h i=>∃k:Nat,k≤s.size∧i=.int .i64 k∧∃x:Int,h=.int .u64 x∧Hid (x=GX (s.data.toList.take k))) (fun _ i=>s.size-(intOf i).toNat)
 case atStart=>exact⟨0,by omega,rfl,14695981039346656037,rfl,rfl⟩
 case round=>
  obtain⟨k,hk,rfl,x,rfl,hx⟩:=hrel
  by_cases hlt:k<s.size
  ·go_wp2
   go_round
   case rel=>exact⟨k+1,by omega,by go_num,_,rfl,by have:=DJ s k hlt;rw[←hx.out] at this;exact this.symm⟩
   case measure=>simp[intOf];omega
  ·go_wp2
   have kc:=fun(w:World) (n:Int)=>vH (P:=Tryz.prog) 45 5 Tryz.underlying45 Tryz.underlying5 9 Tryz.underlying9 5 w n
   go_loopw [5,6] (fun o i wr=>∃j:Nat,j≤8∧i=.int .i64 j∧o=.string (Gh x j)∧Keeps Non w wr) (fun _ i _=>8-(intOf i).toNat)
   case atStart=>exact⟨0,by omega,rfl,rfl,Keeps.refl _ _⟩
   case round=>
    obtain⟨j,hj,rfl,rfl,hkp⟩:=hrel
    have HK:=Lib.hid hkp
    clear hkp
    by_cases hlt':j<8
    ·have hsz:(Gh x j).size≤8:=by rw[Rj];exact hj
     go_wp2
     go_roundw
     case rel=>exact⟨j+1,by omega,by go_num,congrArg Value.string (Ri x j),HK.out.alloc _⟩
     case measure=>simp[intOf];omega
    ·obtain rfl:j=8:=by omega
     go_wp2
     go_ret
     rw[KF s k hlt] at hx
     obtain rfl:=hx.out
     exact⟨rfl,HK.out⟩
end Go.Proofs.YtdkogijdfgfpeaaGreatDoor

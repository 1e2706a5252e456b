/- The law Packs: the walks. -/
import Derived.Test.YtdkogijdfgfpeaaGreatDoorZTree
import Derived.ProofKit
import Derived.OpenShut
import Derived.SizedLaws
import Derived.WideKeyArgs
import Derived.Deep.Slices
import Derived.Deep.Fields
import Derived.Deep.DeepHandedRow
import Derived.Deep.DeepWitnessRowRef
import Derived.Lib.LaidIn
import Derived.Lib.LaidU8T
import Derived.Lib.LaidTab
import Derived.Test.YtdkogijdfgfpeaaGreatDoorZLib
import Derived.Lib.OthersKept
import Derived.Lib.TrimU
import Derived.Laws.RangeAny
import Derived.Deep.LoopGhost
import Derived.Deep.QuietTactic
import Derived.Deep.DeepCutAuto
import Derived.WalkMore
import Derived.Test.YtdkogijdfgfpeaaGreatDoorZMem
import Derived.Deep.RegionLaw
set_option linter.unusedVariables false
set_option maxHeartbeats 1600000
set_option maxRecDepth 1000000
namespace Go.Proofs.YtdkogijdfgfpeaaGreatDoor
open Go Go.RowKit
def Oe(l:List Node):Prop:=∀n∈l,n.path.length≤140737488355328∧n.data.length≤140737488355328
def kY:List Node→Int→Int
 | [],n=>n
 |x :: r,n=>if 262144<n+(x.path.length+x.data.length) then n+(x.path.length+x.data.length) else kY r (n+(x.path.length+x.data.length))
def uq(l:List Node):Int:=kY l l.length
theorem Og(v:Value)(l:List Node)(w:World)(hv:Rd w 3 v l.length (ak l))(hfit:Oe l)(af9:l.length≤140737488355328):
 Calls Tryz.prog 30 #[v] w fun e w'=>e=.returned (.int .i64 (uq l))∧Keeps Non w w':=by
 obtain⟨a,cap,rfl,hl63,hcm⟩:=hv.shape
 unfold maxLen at hcm
 have HV:=Lib.hid hv
 have qg:=Lib.hid hfit
 clear hv hfit
 go_enter Tryz.func30,Tryz.ntmps30
 go_wp2_with fail
 go_loopg [3,10] l.length (fun gk n i wr=>∃(k:Nat) (z:Int),gk=l.length-k∧k≤l.length∧i=.int .i64 k∧n=.int .i64 z∧0≤z∧z≤140737488355328∧Hid (Keeps Non w wr)∧Hid (uq l=kY (l.drop k) z))
 case atStart=>exact⟨0,l.length,rfl,Nat.zero_le _,rfl,rfl,by omega,by omega,Keeps.refl _ _,rfl⟩
 case round=>
  obtain⟨k,z,rfl,hk,rfl,rfl,hz0,hz1,HK,HW⟩:=hrel
  by_cases hlt:k<l.length
  ·have hg:Hid (uq l=kY (l[k] :: l.drop (k+1)) z):=by show _=_;rw[HW.out,List.drop_eq_getElem_cons hlt]
   have hat:=iJ l k hlt
   have hf:=qg.out l[k] (List.getElem_mem hlt)
   obtain⟨b,off,cp,hsh,-,-,-,hbl,hc,-⟩:=HV.out.pos (by omega)
   cases hsh
   have hbelow:=HK.out.below (Nat.le_refl _) (fun _ _ h=>h)
   generalize l[k]=N at *
   obtain⟨p,kd,da⟩:=N
   simp only at hat hf
   have c0:wr.cell? ⟨b,off+k*3,none⟩=some (sv p):=(hbelow.cell (p:=⟨b,off+k*3,none⟩) hbl).trans ((hc _ (by omega)).trans hat.1)
   have c1:wr.cell? ⟨b,off+k*3+1,none⟩=some (.int .i64 kd):=(hbelow.cell (p:=⟨b,off+k*3+1,none⟩) hbl).trans ((hc _ (by omega)).trans hat.2.1)
   have c2:wr.cell? ⟨b,off+k*3+2,none⟩=some (sv da):=(hbelow.cell (p:=⟨b,off+k*3+2,none⟩) hbl).trans ((hc _ (by omega)).trans hat.2.2)
   unfold sv at c0 c2
   have ak8:=hf.1
   have ak9:=hf.2
   clear hat hc hbelow HW hf
   go_upto_region 5 with(fail)
   obtain⟨w1,hw1⟩:∃w1,wr.alloc (.cells #[.string ⟨p.toArray⟩,.int .i64 kd,.string ⟨da.toArray⟩] 49)=w1:=⟨_,rfl⟩
   have hbox:aS w1 wr.heap.size #[.string ⟨p.toArray⟩,.int .i64 kd,.string ⟨da.toArray⟩] 49:=by rw[←hw1];exact aS.new _ _ _
   have iy:Hid (Keeps Non w w1):=by rw[←hw1];exact HK.out.alloc _
   rw[hw1]
   clear hw1 c0 c1 c2
   have n0:w1.cell? ⟨wr.heap.size,0,none⟩=some (.string ⟨p.toArray⟩):=hbox.cell 0
   have n2:w1.cell? ⟨wr.heap.size,2,none⟩=some (.string ⟨da.toArray⟩):=hbox.cell 2
   clear hbox
   by_cases hg2:262144<z+(p.length+da.length)
   ·have hd:decide ((262144:Int)<z+((p.length:Int)+(da.length:Int)))=true:=by simpa using hg2
    have HF:Hid (uq l=z+(p.length+da.length)):=by show _=_;rw[hg.out,kY,if_pos hg2]
    clear hg
    go_wp2_with fail
    go_ret
    exact⟨jU HF.out.symm,iy.out⟩
   ·have hd:decide ((262144:Int)<z+((p.length:Int)+(da.length:Int)))=false:=by simpa using hg2
    have HF:Hid (uq l=kY (l.drop (k+1)) (z+(p.length+da.length))):=by show _=_;rw[hg.out,kY,if_neg hg2]
    clear hg
    go_wp2_with fail
    go_roundg (l.length-(k+1))
    case measure=>omega
    case rel=>exact⟨k+1,z+(p.length+da.length),rfl,by omega,by go_num,by go_num,by omega,by omega,iy,HF⟩
  ·have HF:Hid (uq l=z):=by show _=_;rw[HW.out,List.drop_eq_nil_of_le (by omega)];rfl
   clear HW
   go_wp2_with fail
   go_ret
   exact⟨jU HF.out.symm,HK.out⟩
theorem wV:∀(r:List Node) (k:Nat) (st:Opens),bT r k st= -1→k≤30→k+r.length≤30
 | [],k,_,_,h=>h
 |x :: r,k,st,hw,h=>by
  unfold bT at hw
  cases ho:bP k x st with
  |none=>rw[ho] at hw;simp only at hw;omega
  |some st'=>
   rw[ho] at hw
   have hk:k≠30:=by
    intro e
    unfold bP at ho
    rw[if_pos (.inl e)] at ho
    cases ho
   have:=wV r (k+1) _ hw (by omega)
   simp only[List.length_cons]
   omega
theorem Gz(r:List (List UInt8)):(iU r).length≤40:=by
 unfold iU
 have:=dL [[41]]
 simp only[roomOf,List.map_cons,List.sum_cons,List.length_cons,List.length_nil,List.map_nil,List.sum_nil] at this
 rw[List.length_append]
 split
 ·simp;omega
 ·omega
theorem unwind_len(p:List UInt8):∀st:List (List UInt8),(unwind p st).1.length+40*(unwind p st).2.length≤40*st.length
 | []=>by simp[unwind]
 |d :: r=>by
  unfold unwind
  split
  ·simp
  ·have:=unwind_len p r
   have:=Gz r
   simp only[List.length_append,List.length_cons]
   omega
theorem unwindAll_len:∀st:List (List UInt8),(unwindAll st).length≤40*st.length
 | []=>by simp[unwindAll]
 |d :: r=>by
  have:=unwindAll_len r
  have:=Gz r
  simp only[unwindAll,List.length_append,List.length_cons]
  omega
theorem yB:∀(l:List Node) (k:Nat) (st:List (List UInt8)),(dA l k st).length≤(l.map fun x=>x.path.length+x.data.length+400).sum+40*st.length
 | [],_,st=>by simpa [dA] using unwindAll_len st
 |x :: r,k,st=>by
  have h1:=unwind_len x.path st
  have h2:=yB r (k+1) (x.path :: (unwind x.path st).2)
  have h3:=yB r (k+1) (unwind x.path st).2
  have hh:(mY k x.path).length≤x.path.length+120:=by
   unfold mY
   split
   ·simp
   ·refine Nat.le_trans (dL _) ?_
    have:=JX x.path
    simp only[roomOf,List.map_cons,List.sum_cons,List.length_cons,List.length_nil,List.map_nil,List.sum_nil]
    omega
  have ht:oD.length≤50:=by
   refine Nat.le_trans (dL _) ?_
   simp[roomOf]
  have hd:(aC [[100,105,114]]).length≤30:=by
   refine Nat.le_trans (dL _) ?_
   simp[roomOf]
  have hl:(xW x.kind x.data).length≤x.data.length+130:=by
   unfold xW
   split
   ·refine Nat.le_trans (dL _) ?_
    simp only[roomOf,List.map_cons,List.sum_cons,List.length_cons,List.length_nil,List.map_nil,List.sum_nil]
    omega
   ·split
    ·refine Nat.le_trans (dL _) ?_
     simp only[roomOf,List.map_cons,List.sum_cons,List.length_cons,List.length_nil,List.map_nil,List.sum_nil]
     omega
    ·refine Nat.le_trans (dL _) ?_
     simp only[roomOf,List.map_cons,List.sum_cons,List.length_cons,List.length_nil,List.map_nil,List.sum_nil]
     omega
  have htl:(nJ k).length≤20:=by
   unfold nJ
   split
   ·simp
   ·refine Nat.le_trans (dL _) ?_
    simp[roomOf]
  simp only[dA,List.length_append,List.map_cons,List.sum_cons]
  simp only[List.length_cons] at h2
  split
  ·simp only[List.length_append];omega
  ·simp only[List.length_append];omega
theorem sum_add(l:List Node)(c:Nat):(l.map fun x=>x.path.length+x.data.length+c).sum=(l.map fun x=>x.path.length+x.data.length).sum+c*l.length:=by
 induction l with
 |nil=>simp
 |cons x r ih=>simp only[List.map_cons,List.sum_cons,ih,List.length_cons,Nat.mul_add];omega
theorem Aj(l:List Node):(aJ l).length≤(l.map fun x=>x.path.length+x.data.length).sum+400*l.length+40:=by
 unfold aJ
 have h1:=yB l 0 []
 have h2:(aC [[110,97,114,45,49]]).length≤40:=by
  refine Nat.le_trans (dL _) ?_
  simp[roomOf]
 rw[sum_add] at h1
 simp only[List.length_append,List.length_nil] at h1 ⊢
 omega
theorem xY:∀(r:List Node) (k:Nat) (st:Opens),bT r k st= -1∨(k:Int)≤bT r k st∧bT r k st<k+r.length
 | [],_,_=>.inl rfl
 |x :: r,k,st=>by
  unfold bT
  cases bP k x st with
  |none=>right;simp only[List.length_cons];omega
  |some st'=>
   simp only[List.length_cons]
   rcases xY r (k+1) (fM x st') with h|⟨h1,h2⟩
   ·exact .inl h
   ·right;omega
theorem vO(l:List Node):bH l= -1∨0≤bH l:=by
 unfold bH
 split
 ·right;omega
 ·rcases xY l 0 [] with h|h
  ·exact .inl h
  ·right;omega
theorem IY(v v':Value)(l:List Node)(w:World)(hv:Rd w 3 v l.length (ak l))(hv':Rd w 3 v' l.length (ak l))(af9:l.length≤140737488355328):
 Calls Tryz.prog 102 #[v,v'] w fun e w'=>e=.returned (.bool true)∧Keeps Non w w':=by
 obtain⟨a,cap,rfl,hl63,hcm⟩:=hv.shape
 obtain⟨a',cap',rfl,hl63',hcm'⟩:=hv'.shape
 unfold maxLen at hcm hcm'
 have HV:=Lib.hid hv
 have HV':=Lib.hid hv'
 clear hv hv'
 go_enter Tryz.func102,Tryz.ntmps102
 go_wp2_with fail
 go_loopg [13] l.length (fun gk i wr=>∃k:Nat,gk=l.length-k∧k≤l.length∧i=.int .i64 k∧Hid (Keeps Non w wr))
 case atStart=>exact⟨0,rfl,Nat.zero_le _,rfl,Keeps.refl _ _⟩
 case round=>
  obtain⟨k,rfl,hk,rfl,HK⟩:=hrel
  by_cases hlt:k<l.length
  ·have hat:=iJ l k hlt
   obtain⟨b,off,cp,hsh,-,-,-,hbl,hc,-⟩:=HV.out.pos (by omega)
   cases hsh
   obtain⟨b',off',cp',hsh,-,-,-,hbl',hc',-⟩:=HV'.out.pos (by omega)
   cases hsh
   have hbelow:=HK.out.below (Nat.le_refl _) (fun _ _ h=>h)
   generalize l[k]=N at *
   obtain⟨p,kd,da⟩:=N
   simp only at hat
   have c0:wr.cell? ⟨b,off+k*3,none⟩=some (sv p):=(hbelow.cell (p:=⟨b,off+k*3,none⟩) hbl).trans ((hc _ (by omega)).trans hat.1)
   have c1:wr.cell? ⟨b,off+k*3+1,none⟩=some (.int .i64 kd):=(hbelow.cell (p:=⟨b,off+k*3+1,none⟩) hbl).trans ((hc _ (by omega)).trans hat.2.1)
   have c2:wr.cell? ⟨b,off+k*3+2,none⟩=some (sv da):=(hbelow.cell (p:=⟨b,off+k*3+2,none⟩) hbl).trans ((hc _ (by omega)).trans hat.2.2)
   have d0:wr.cell? ⟨b',off'+k*3,none⟩=some (sv p):=(hbelow.cell (p:=⟨b',off'+k*3,none⟩) hbl').trans ((hc' _ (by omega)).trans hat.1)
   have d1:wr.cell? ⟨b',off'+k*3+1,none⟩=some (.int .i64 kd):=(hbelow.cell (p:=⟨b',off'+k*3+1,none⟩) hbl').trans ((hc' _ (by omega)).trans hat.2.1)
   have d2:wr.cell? ⟨b',off'+k*3+2,none⟩=some (sv da):=(hbelow.cell (p:=⟨b',off'+k*3+2,none⟩) hbl').trans ((hc' _ (by omega)).trans hat.2.2)
   unfold sv at c0 c2 d0 d2
   clear hat hc hc' hbelow
   have q2:(0:Int)≤(k:Int):=by omega
   have q3:(k:Int)<(l.length:Int):=by omega
   have q4:IntKind.i64.wrap (k:Int)=(k:Int):=IntWalk.i64_in _ (by omega)
   go_upto_region 6 with(fail)
   go_quiet (fail)
   go_wp2_with fail
   go_roundg (l.length-(k+1))
   case measure=>omega
   case rel=>exact⟨k+1,rfl,by omega,by go_num,HK.out.drewN _⟩
  ·go_wp2_with fail
   go_ret
   exact⟨rfl,HK.out⟩
theorem sO(v:Value)(l:List Node)(w:World)(hv:Rd w 3 v l.length (ak l))(hfit:jr l)(h:bH l= -1)(hlen:(aJ l).length≤70368744177664):
 Calls Tryz.prog 105 #[v] w fun e w'=>e=.returned (.string ⟨(aJ l).toArray⟩)∧Keeps Non w w':=by
 have hp:=J9 h
 have hl2:(iI l).length≤70368744177664:=by rw[hp] at hlen;simp at hlen;omega
 have hl3:(bM [110,97,114,45,49]).length≤100:=by rw[gZ];have:=lK 5;simp;omega
 have hne:l≠[]:=by rintro rfl;simp[bH] at h
 have HV:=Lib.hid hv
 have qg:=Lib.hid hfit
 have HP:=Lib.hid hp
 have Q5:=Lib.hid hne
 clear hv hfit h hlen hp hne
 go_enter Tryz.func105,Tryz.ntmps105
 go_wp2_with fail
 refine(qH [110,97,114,45,49] _ (by simp)).mono ?_
 rintro e w1 ⟨rfl,hk1⟩
 have iy:=Lib.hid hk1
 clear hk1
 go_wp2_with fail
 refine(QX l.length l v _ (Nat.le_refl _) Q5.out (HV.out.non iy.out) qg.out hl2).mono ?_
 rintro e w2 ⟨rfl,hk2⟩
 have iP:=Lib.hid (iy.out.trans hk2 (fun k hk=>.inl hk))
 clear hk2
 go_wp2_with fail
 go_ret
 exact⟨yR (by rw[dW,HP.out]),iP.out⟩
end Go.Proofs.YtdkogijdfgfpeaaGreatDoor
namespace Go.Proofs.YtdkogijdfgfpeaaGreatDoor
open Go Go.RowKit Go.WideShapes Go.ChangeShapes Go.ChangeAt
section
variable {H:Type} {enc:TypeId×Value→H} {P:Program}
theorem Oh{B:Nat}{w w':World}(h:Below B w w'){p:MemPlace}(hp:p.block<B):w.sameAt w' p:=by
 cases p with
 |cell b o=>exact h.cell (p:=⟨b,o,none⟩) hp
 |map b=>exact h.block b hp
theorem xZ(hl:laidOutB P=true){W W':World}{sp:Nat→Bool}:∀(ts:List TypeId) (vs:List Value) (ds:List (DataW H)) (ps:List MemPlace),
 DataW.TrodAll enc P W 0 (fun _=>true) true ts vs ds ps→(∀t∈ts,P.readableRec t=true∧t<P.types.size)→(∀p∈ps,W.sameAt W' p)→(∀p∈ps,sp p.block=true)→DataW.TrodAll enc P W' 0 sp true ts vs ds ps
 | [],vs,ds,ps,h,_,_,_=>by
   obtain⟨rfl,rfl,rfl⟩:=trodAll_nil h
   exact trodAll_mk0
 |t :: ts,vs,ds,ps,h,ht,hs,hp=>by
  obtain⟨v,vs',d,ds',p,q,rfl,rfl,rfl,h1,h2⟩:=trodAll_cons h
  obtain⟨hr,hz⟩:=ht t (List.mem_cons_self ..)
  exact trodAll_cons_mk (WideElems.Trod_stays hl hr hz h1 (fun x hx=>hs x (List.mem_append_left _ hx)) (fun x hx=>hp x (List.mem_append_left _ hx)))
   (xZ hl ts vs' ds' q h2 (fun t' h'=>ht t' (List.mem_cons_of_mem _ h')) (fun x hx=>hs x (List.mem_append_right _ hx)) (fun x hx=>hp x (List.mem_append_right _ hx)))
theorem post_law{f:Func}{s:ChangeSpec}{apart fresh handsOn:Bool}{W W':World}{args:Array Value}{ds gs:List (DataW H)}{before:List MemPlace}(t4:TypeId)
 (hl:laidOutB P=true) (ht:∀t∈f.params.toList,P.readableRec t=true∧t<P.types.size) (hv:s.vars=[]) (hr:f.resultTypes=#[t4]) (h4:P.underlying t4=some .bool)
 (hW:DataW.Whole enc P f.params.toList s.vars apart W args.toList ds gs before) (hfn:(s.fn H (ds++gs)).results=[.lit (.bool true)]∧(s.fn H (ds++gs)).args=ds∧(s.fn H (ds++gs)).vars=[])
 (hb:Below W.heap.size W W'):s.post enc P f apart fresh handsOn false W args (.bool true) W':=by
 have hlt:∀p∈before,p.block<W.heap.size:=fun p hp=>hW.lt p hp
 obtain⟨p,q,hA,hV,rfl,-,-⟩:=id hW
 rw[hv] at hV
 obtain⟨rfl,rfl⟩:=trodVars_none hV
 refine⟨ds,[],p++[],[],p,[],hW,?_,?_,?_,World.keptBut_mono (fun x hx=>⟨hx,.inr (.inl (by simpa using hx))⟩) (hb.frame (· ∈p++[])),fun h=>by cases h⟩
 ·rw[hfn.1,hr]
  exact trodAll_mk1 (shut_bool h4 _)
 ·rw[hfn.2.1]
  exact xZ hl _ _ _ _ hA ht (fun x hx=>Oh hb (hlt x (by simpa using hx))) (fun x hx=>by simpa using hlt x (by simpa using hx))
 ·rw[hv,hfn.2.2];rfl
end
theorem Src.yY{P:Program}{w:World}{size:Nat}{tx E:TypeId}{v:Value}{n:Nat}{xs:List Value}(hk:P.underlying tx=some (.slice E))(h:Rd w size v n xs)(h1:∀u∈xs,u.oneCell'=true):Src P size tx v n xs w:=by
 obtain⟨hl,⟨a,cap,rfl,rfl,h3⟩|⟨b,off,cap,rfl,h2,h3,h4,h5⟩⟩:=h
 ·obtain rfl:xs=[]:=List.eq_nil_of_length_eq_zero (by simpa using hl)
  cases a with
  |none=>exact Src.ofNil w hk _
  |some a=>exact Src.ofSlice w hk a 0 cap [] (by simp) (fun j u hj=>by simp at hj) h1
 ·exact Src.ofSlice w hk ⟨b,off,none⟩ n cap xs hl (fun j u hj=>by
   rw[Addr.add_lit,h5 j (by rw[←hl];exact(List.getElem?_eq_some_iff.1 hj).1)];exact hj) h1
instance:Inhabited Node:=⟨⟨[],0,[]⟩⟩
theorem U1:Tryz.prog.cellsOf 9=1:=by kernel_rfl
theorem GH:Tryz.prog.cellsOf 49=3:=by kernel_rfl
section
variable {H:Type} {enc:TypeId×Value→H}
theorem open_node{w:World}{base:Nat}{spare:Nat→Bool}{held:Bool}{fuel:Nat}{cs:List Value}{x:DataW H×List MemPlace}(h:DataW.trod enc Tryz.prog w base spare held fuel 49 cs=some x):
 ∃nd:Node,cs=[sv nd.path,.int .i64 nd.kind,sv nd.data]∧x.1=.agg [.lit (.string nd.path),.lit (.int .i64 nd.kind),.lit (.string nd.data)]:=by
 obtain⟨xs,n,rfl,rfl,hl,hxl,hf⟩:=DataW.trod_struct Tryz.underlying49 h
 rw[GH] at hl
 obtain⟨c0,c1,c2,rfl⟩:∃a b c,cs=[a,b,c]:=by
  match cs,hl with
  | [a,b,c],_=>exact⟨a,b,c,rfl⟩
 obtain⟨y0,y1,y2,rfl⟩:∃a b c,xs=[a,b,c]:=by
  have hxl:xs.length=3:=hxl
  match xs,hxl with
  | [a,b,c],_=>exact⟨a,b,c,rfl⟩
 have h0:=hf 0 _ rfl
 have h1:=hf 1 _ rfl
 have h2:=hf 2 _ rfl
 obtain⟨s,e0,z0,-⟩:=DataW.trod_string Tryz.underlying9 (show DataW.trod enc Tryz.prog w base spare held n 9 [c0]=some y0 from h0)
 obtain⟨k,e1,z1,-⟩:=DataW.trod_int Tryz.underlying47 (show DataW.trod enc Tryz.prog w base spare held n 47 [c1]=some y1 from h1)
 obtain⟨d,e2,z2,-⟩:=DataW.trod_string Tryz.underlying9 (show DataW.trod enc Tryz.prog w base spare held n 9 [c2]=some y2 from h2)
 cases e0;cases e1;cases e2
 subst z0 z1 z2
 exact⟨⟨s.data.toList,k,d.data.toList⟩,rfl,rfl⟩
end
end Go.Proofs.YtdkogijdfgfpeaaGreatDoor
namespace Go.Proofs.YtdkogijdfgfpeaaGreatDoor
open Go Go.RowKit
def dQ(c:UInt8):Bool:=(decide (97≤c.toNat)&&decide (c.toNat≤122))||(decide (48≤c.toNat)&&decide (c.toNat≤57))||c==45
def fF(s:List UInt8):Bool:=s.all dQ && !s.isEmpty&&decide (s.length≤12)
abbrev abc:ByteArray:=⟨#[97,98,99,100,101,102,103,104,105,106,107,108,109,110,111,112,113,114,115,116,117,118,119,120,121,122,48,49,50,51,52,53,54,55,56,57,45]⟩
theorem Qh:∀b∈abc.data.toList,b.toNat<128:=by decide
theorem indexByte_none:∀(l:List UInt8) (c:UInt8),(∀b∈l,b≠c)→Lib.indexByte l c= -1
 | [],_,_=>rfl
 |b :: l,c,h=>by
  have hb:(b==c)=false:=by simpa using h b (List.mem_cons_self ..)
  rw[Lib.indexByte,hb,indexByte_none l c fun x hx=>h x (List.mem_cons_of_mem _ hx)]
  rfl
theorem Oi(c:UInt8):decide (0≤Lib.indexByte abc.data.toList c)=dQ c:=by
 have h:∀n:Fin 256,decide (0≤Lib.indexByte abc.data.toList (UInt8.ofNat n.val))=dQ (UInt8.ofNat n.val):=by decide
 have:=h ⟨c.toNat,c.toNat_lt⟩
 rw[UInt8.ofNat_toNat] at this
 exact this
theorem Ko(c:UInt8)(h:c.toNat<128)(w:World):
 Calls Tryz.prog 119 #[.string abc,.int .i32 c.toNat] w fun e w'=>e=.returned (.int .i64 (Lib.indexByte abc.data.toList c))∧w=w':=by
 go_enter Tryz.func119,Tryz.ntmps119
 go_wp2_with fail
 refine(rY _ _ _).mono ?_
 rintro e w' ⟨rfl,rfl⟩
 go_wp2_with fail
 go_ret
 exact⟨rfl,rfl⟩
theorem Dx(pos:Nat)(h:pos<abc.size):Utf8.decode abc pos=((abc[pos]'h).toNat,1)∧(abc[pos]'h).toNat<128:=by
 have hl:(abc[pos]'h).toNat<128:=Qh _ (by
  show abc.data[pos]∈_
  rw[←Array.getElem_toList]
  exact List.getElem_mem _)
 exact⟨decode_ascii abc pos h hl,hl⟩
theorem Kq(w:World):
 Calls Tryz.prog 119 #[.string abc,.int .i32 65533] w fun e w'=>e=.returned (.int .i64 (-1))∧Keeps Non w w':=by
 go_enter Tryz.func119,Tryz.ntmps119
 go_wp2_with fail
 go_loopg [] 37 (fun g wx=>∃pos:Nat,g=37-pos∧wx.heap[w.heap.size]? =some (.stringIter abc pos)∧Below w.heap.size w wx∧pos≤37)
 case atStart=>exact⟨0,rfl,World.iter_heap w abc 0,(Below.refl _ w).alloc (Nat.le_refl _) _,by omega⟩
 case round=>
  obtain⟨pos,rfl,hit,hbw,hle⟩:=hrel
  by_cases hp:pos<abc.size
  ·have hnx:∀ty,(Instr.next (.pointer (some ⟨w.heap.size,0,none⟩)) true ty).run Tryz.prog wr=_:=fun ty=>Lib.run_next_any_at wr w.heap.size abc pos ty hit hp
   obtain⟨h1,h2⟩:=Dx pos hp
   obtain⟨R,hR⟩:∃R,(abc[pos]'hp).toNat=R:=⟨_,rfl⟩
   rw[h1,hR] at hnx
   rw[hR] at h2
   have hit2:=Lib.iterAt_heap wr w.heap.size abc pos (pos+1) hit
   have hbw2:=Lib.below_iterAt hbw (k:=w.heap.size) (Nat.le_refl _) abc (pos+1)
   simp only at hnx
   have h3:pos<37:=hp
   have hne:((R:Int)==65533)=false:=by rw[beq_eq_false_iff_ne];omega
   clear h1 hR hp
   go_wp2_with fail
   go_roundg (37-(pos+1))
   case measure=>omega
   case rel=>exact⟨pos+1,rfl,hit2,hbw2,by omega⟩
  ·have hnx:∀ty,(Instr.next (.pointer (some ⟨w.heap.size,0,none⟩)) true ty).run Tryz.prog wr=_:=fun ty=>Lib.run_next_end_at wr w.heap.size abc pos ty hit hp
   clear hp
   go_wp2_with fail
   go_ret
   exact⟨rfl,Keeps.of_below hbw fun k hk _=>hk⟩
theorem F9(r:Nat)(hr:r≤1114111)(w:World):
 Calls Tryz.prog 143 #[.int .i32 r] w fun e w'=>e=.returned (.bool (Utf8.valid r))∧w=w':=by
 have p0:decide ((0:Int)≤(r:Int))=true:=by simp
 have p4:decide ((r:Int)≤1114111)=true:=by rw[decide_eq_true_eq];omega
 by_cases h1:r<55296
 ·have hv:Utf8.valid r=true:=by simp[Utf8.valid];omega
  have p1:decide ((r:Int)<55296)=true:=by rw[decide_eq_true_eq];omega
  rw[hv]
  clear hv h1 hr
  go_enter Tryz.func143,Tryz.ntmps143
  go_wp2_with fail
  go_ret
  exact⟨rfl,rfl⟩
 ·have p1:decide ((r:Int)<55296)=false:=by rw[decide_eq_false_iff_not];omega
  by_cases h2:57343<r
  ·have hv:Utf8.valid r=true:=by simp[Utf8.valid];omega
   have p2:decide ((57343:Int)<(r:Int))=true:=by rw[decide_eq_true_eq];omega
   rw[hv]
   clear hv h1 h2 hr
   go_enter Tryz.func143,Tryz.ntmps143
   go_wp2_with fail
   go_ret
   exact⟨rfl,rfl⟩
  ·have hv:Utf8.valid r=false:=by simp[Utf8.valid];omega
   have p2:decide ((57343:Int)<(r:Int))=false:=by rw[decide_eq_false_iff_not];omega
   rw[hv]
   clear hv h1 h2 hr
   go_enter Tryz.func143,Tryz.ntmps143
   go_wp2_with fail
   go_ret
   exact⟨rfl,rfl⟩
theorem U2(r:Nat)(h:128≤r):∃(a:List UInt8) (c:UInt8),Utf8.encode r=⟨(a++[c]).toArray⟩∧128≤c.toNat∧1≤a.length∧a.length≤3:=by
 have key:∀x:Nat,128≤(UInt8.ofNat (128+x % 64)).toNat:=fun x=>by rw[UInt8.toNat_ofNat'];omega
 unfold Utf8.encode
 have hc:128≤(if Utf8.valid (r:Int)=true then (r:Int).toNat else Utf8.runeError):=by
  split
  ·simpa using h
  ·simp[Utf8.runeError]
 obtain⟨c,hcd⟩:∃c,(if Utf8.valid (r:Int)=true then (r:Int).toNat else Utf8.runeError)=c:=⟨_,rfl⟩
 simp only[hcd] at hc ⊢
 rw[if_neg (by omega)]
 split
 ·exact⟨[_],_,rfl,key _,by simp,by simp⟩
 ·split
  ·exact⟨[_,_],_,rfl,key _,by simp,by simp⟩
  ·exact⟨[_,_,_],_,rfl,key _,by simp,by simp⟩
theorem IZ(r:Nat)(h:128≤r)(hr:r≤1114111)(h2:r≠65533)(w:World):
 Calls Tryz.prog 119 #[.string abc,.int .i32 r] w fun e w'=>e=.returned (.int .i64 (-1))∧Keeps Non w w':=by
 have q1:decide ((r:Int)<128)=false:=by simp;omega
 have q2:((r:Int)==65533)=false:=by rw[beq_eq_false_iff_ne];omega
 have HV:=Lib.hid (fun w=>F9 r hr w)
 have HE:=Lib.hid (U2 r h)
 clear h hr h2
 have q0:decide ((0:Int)≤(r:Int))=true:=by simp
 go_enter Tryz.func119,Tryz.ntmps119
 go_wp2_with fail
 refine(HV.out _).mono ?_
 rintro e w' ⟨rfl,rfl⟩
 clear HV
 cases hval:Utf8.valid r with
 |false=>
  go_wp2_with fail
  go_ret
  exact⟨rfl,Keeps.refl _ _⟩
 |true=>
  clear hval
  obtain⟨a,c,henc,hc,ha1,ha3⟩:=HE.out
  clear HE
  have hbb:∀(i:Nat) (hi:i<abc.size),((((abc[i]'hi).toNat:Int) !=(c.toNat:Int))=true):=fun i hi=>by
   have:=(Dx i hi).2
   rw[bne_iff_ne]
   omega
  have hix:∀i,Lib.indexByte (abc.extract i 37).data.toList c= -1:=fun i=>indexByte_none _ _ fun b hb e=>by
   rw[ext_list] at hb
   have:=Qh b (List.mem_of_mem_drop (List.mem_of_mem_take hb))
   rw[e] at this
   omega
  obtain⟨rs,hrs⟩:∃rs:ByteArray,rs=⟨(a++[c]).toArray⟩:=⟨_,rfl⟩
  obtain⟨n,hn⟩:∃n,a.length=n:=⟨_,rfl⟩
  have hsz:rs.size=n+1:=by rw[hrs];show(a++[c]).toArray.size=_;simp[hn]
  have hat:∀h:n<rs.size,rs[n]'h=c:=fun h=>by
   subst hrs
   show(a++[c]).toArray[n]=c
   simp[←hn]
  rw[←hrs] at henc
  rw[hn] at ha1 ha3
  have hnlt:n<rs.size:=by omega
  have yC:=hat hnlt
  have aga:n<37:=by omega
  have hbn:=hbb n aga
  have agb:=Lib.hid hix
  clear hix hbb hat hn hrs
  have hcv:Sem.run Tryz.prog (convert 21 9 (.int .i32 r)) w=.ok (.string rs) w:=by
   rw[run_convert_int_string w _ _ _ _ (by rw[Tryz.underlying21];rfl) Tryz.underlying9,henc]
  go_wp2_with fail
  go_step3
  go_wp2_with fail
  go_loopg [9] 1 (fun gk iv wr=>iv=.int .i64 n∧w=wr)
  case atStart=>exact⟨rfl,rfl⟩
  case round=>
   obtain⟨rfl,rfl⟩:=hrel
   go_wp2_with fail
   go_step3
   go_upto_region 6 with(fail)
   go_quiet (fail)
   obtain⟨W,hW⟩:∃W,W=w.drewN nq:=⟨_,rfl⟩
   have hkW:Keeps Non w W:=by rw[hW];exact(Keeps.refl _ _).drewN _
   rw[←hW]
   clear hW
   go_upto_region 7 with(fail)
   have hIB:Hid (∀(s:ByteArray) (w:World),Calls Tryz.prog 120 #[.string s,.int .u8 c.toNat] w fun e w'=>e=.returned (.int .i64 (Lib.indexByte s.data.toList c))∧w'=w):=fun s w=>(rY s c w).mono fun e w' h=>⟨h.1,h.2.symm⟩
   have hwr:IntKind.i64.wrap ((n:Int)+1)=((n+1:Nat):Int):=by rw[IntWalk.i64_in _ (by omega)];rfl
   have hq1:(0:Int)≤(n:Int)+1:=by omega
   have hq2:(n:Int)+1≤37:=by omega
   have hsl:∀w,Sem.run Tryz.prog (Instr.slice 9 (.string abc) (some (.int .i64 ((n:Int)+1))) none none) w=.ok (.string (abc.extract (n+1) 37)) w:=fun w=>by
    have e:((n:Int)+1).toNat=n+1:=by omega
    simp[go_sem,hq1,hq2,e]
   clear hq1 hq2
   have hsi:∀w,Sem.run Tryz.prog (Instr.index 9 (.string rs) (.int .i64 (n:Int))) w=.ok (.int .u8 (c.toNat:Int)) w:=fun w=>by
    simp[go_sem,hsz,yC]
    intro h;omega
   go_quiet (first|(go_at_call 120;exact Calls.quiet_of_same (hIB.out _ _)))
   have hx:=agb.out (n+1)
   rw[hx]
   go_wp2_with fail
   simp only[Exit.inBlock,Exit.then,Exit.noGoto_ret]
   go_ret
   exact⟨rfl,hkW.drewN _⟩
def rJ(r:Nat):Bool:=decide (r<128)&&dQ (UInt8.ofNat r)
theorem U3(r:Nat)(hr:r≤1114111)(w:World):
 Calls Tryz.prog 119 #[.string abc,.int .i32 r] w fun e w'=>(∃z:Int,e=.returned (.int .i64 z)∧decide (0≤z)=rJ r)∧Keeps Non w w':=by
 by_cases h:r<128
 ·have hc:(UInt8.ofNat r).toNat=r:=by rw[UInt8.toNat_ofNat'];omega
  have:=Ko (UInt8.ofNat r) (by omega) w
  rw[hc] at this
  refine this.mono ?_
  rintro e w' ⟨rfl,rfl⟩
  refine⟨⟨_,rfl,?_⟩,Keeps.refl _ _⟩
  rw[Oi,rJ,decide_eq_true h,Bool.true_and]
 ·have hl:rJ r=false:=by rw[rJ,decide_eq_false h,Bool.false_and]
  rw[hl]
  by_cases h2:r=65533
  ·subst h2
   refine(Kq w).mono ?_
   rintro e w' ⟨rfl,hk⟩
   exact⟨⟨_,rfl,rfl⟩,hk⟩
  ·refine(IZ r (by omega) hr h2 w).mono ?_
   rintro e w' ⟨rfl,hk⟩
   exact⟨⟨_,rfl,rfl⟩,hk⟩
theorem Ak(r:Nat)(hr:r≤1114111)(w:World):
 Calls Tryz.prog 89 #[.string abc,.int .i32 r] w fun e w'=>e=.returned (.bool (rJ r))∧Keeps Non w w':=by
 have HR:=Lib.hid (fun w=>U3 r hr w)
 clear hr
 go_enter Tryz.func89,Tryz.ntmps89
 go_wp2_with fail
 refine(HR.out _).mono ?_
 rintro e w' ⟨⟨z,rfl,hz⟩,hk⟩
 have HZ:=Lib.hid hz
 clear hz
 go_wp2_with fail
 go_ret
 exact⟨aF HZ.out,hk⟩
theorem Kr(s:List UInt8)(pos:Nat)(h:pos<s.length)(hn:dQ s[pos]=false):fF s=false:=by
 have:s.all dQ=false:=by
  rw[List.all_eq_false]
  exact⟨s[pos],List.getElem_mem _,by simp[hn]⟩
 simp[fF,this]
theorem Kt(s:ByteArray)(w:World):
 Calls Tryz.prog 54 #[.string s] w fun e w'=>e=.returned (.bool (fF s.data.toList))∧Keeps Non w w':=by
 go_enter Tryz.func54,Tryz.ntmps54
 go_wp2_with fail
 go_loopg [] s.size (fun g wx=>∃pos:Nat,g=s.size-pos∧pos≤s.size∧wx.heap[w.heap.size]? =some (.stringIter s pos)∧Keeps Non w wx∧Hid (∀b∈s.data.toList.take pos,dQ b=true))
 case atStart=>exact⟨0,rfl,Nat.zero_le _,World.iter_heap w s 0,(Keeps.refl _ w).alloc _,by show ∀b∈_,_;simp⟩
 case round=>
  obtain⟨pos,rfl,hle,hit,hkp,HA⟩:=hrel
  by_cases hp:pos<s.size
  ·have hnx:∀ty,(Instr.next (.pointer (some ⟨w.heap.size,0,none⟩)) true ty).run Tryz.prog wr=_:=fun ty=>Lib.run_next_any_at wr w.heap.size s pos ty hit hp
   have hit2:=Lib.iterAt_heap wr w.heap.size s pos (pos+(Utf8.decode s pos).2) hit
   have Ae:Keeps Non w (wr.iterAt w.heap.size s (pos+(Utf8.decode s pos).2)):=Keeps.of_below (Lib.below_iterAt (hkp.below (Nat.le_refl _) fun _ _ h=>h) (Nat.le_refl _) s _) fun k hk _=>hk
   have hr1:=Lib.rune_le s pos
   have hfact:rJ (Utf8.decode s pos).1=dQ (s[pos]'hp)∧(dQ (s[pos]'hp)=true→(Utf8.decode s pos).2=1):=by
    by_cases ha:(s[pos]'hp).toNat<128
    ·rw[decode_ascii s pos hp ha]
     refine⟨?_,fun _=>rfl⟩
     rw[rJ,decide_eq_true ha,Bool.true_and,UInt8.ofNat_toNat]
    ·have hh:=(decode_high s pos hp (by omega)).1
     have hl:dQ (s[pos]'hp)=false:=by
      have h1:decide ((s[pos]'hp).toNat≤122)=false:=decide_eq_false (by omega)
      have h2:decide ((s[pos]'hp).toNat≤57)=false:=decide_eq_false (by omega)
      have h3:((s[pos]'hp)==45)=false:=by
       rw[beq_eq_false_iff_ne]
       intro e
       rw[e] at ha
       exact ha (by decide)
      unfold dQ
      rw[h1,h2,h3]
      simp
     rw[hl]
     exact⟨by rw[rJ,decide_eq_false (by omega),Bool.false_and],fun h=>by cases h⟩
   obtain⟨hf1,hf2⟩:=hfact
   have hel:∀h:pos<s.data.toList.length,s.data.toList[pos]'h=s[pos]'hp:=fun h=>by
    rw[Array.getElem_toList];rfl
   obtain⟨R,hR⟩:∃R,(Utf8.decode s pos).1=R:=⟨_,rfl⟩
   obtain⟨K,hK⟩:∃K,(Utf8.decode s pos).2=K:=⟨_,rfl⟩
   obtain⟨c,hc⟩:∃c,s[pos]'hp=c:=⟨_,rfl⟩
   rw[hK] at hit2 Ae hf2
   rw[hR] at hr1 hf1
   rw[hR,hK] at hnx
   rw[hc] at hf1 hf2 hel
   obtain⟨W1,hW1⟩:∃W1,W1=wr.iterAt w.heap.size s (pos+K):=⟨_,rfl⟩
   rw[←hW1] at hnx hit2 Ae
   clear hW1 hit hkp
   have HC:=Lib.hid (Ak R hr1 W1)
   have HR:Hid ((Utf8.decode s pos).1=R∧(Utf8.decode s pos).2=K∧s[pos]'hp=c):=⟨hR,hK,hc⟩
   have GI:=Lib.hid hel
   clear hR hK hc hel hr1
   have HF1:=Lib.hid hf1
   have HF2:=Lib.hid hf2
   clear hf1 hf2
   go_wp2_with fail
   refine HC.out.mono ?_
   rintro e w2 ⟨rfl,hk2⟩
   have hit3:=(hk2.block w.heap.size (Array.getElem?_eq_some_iff.1 hit2).1 (fun h=>h)).trans hit2
   have hkp3:=Ae.trans hk2 fun _ h=>h.elim
   rw[HF1.out]
   cases hl:dQ c with
   |true=>
    have h1:=HF2.out hl
    subst h1
    have HL:=Lib.hid hl
    clear hl
    go_wp2_with fail
    go_roundg (s.size-(pos+1))
    case measure=>omega
    case rel=>
     refine⟨pos+1,rfl,by omega,hit3,hkp3,?_⟩
     show ∀b∈_,_
     intro b hb
     rw[List.take_succ_eq_append_getElem (by rw[dlen];exact hp),List.mem_append,List.mem_singleton] at hb
     rcases hb with hb|rfl
     ·exact HA.out b hb
     ·rw[GI.out];exact HL.out
   |false=>
    have HL:=Lib.hid hl
    clear hl
    go_wp2_with fail
    go_ret
    refine⟨aF ?_,hkp3⟩
    exact(Kr _ pos (by rw[dlen];exact hp) (by rw[GI.out];exact HL.out)).symm
  ·have hnx:∀ty,(Instr.next (.pointer (some ⟨w.heap.size,0,none⟩)) true ty).run Tryz.prog wr=_:=fun ty=>Lib.run_next_end_at wr w.heap.size s pos ty hit hp
   have hall:s.data.toList.all dQ=true:=by
    rw[List.all_eq_true]
    intro b hb
    exact HA.out b (by rw[List.take_of_length_le (by rw[dlen];omega)];exact hb)
   have hpb:fF s.data.toList=(!s.data.toList.isEmpty&&decide (s.data.toList.length≤12)):=by
    rw[fF,hall,Bool.true_and]
   have HP:=Lib.hid hpb
   clear hall hpb HA hp hle
   by_cases hs:s.data.toList=[]
   ·have hb2:s.toList.isEmpty=true:=by rw[ByteArray.toList_eq,hs];rfl
    have HF:Hid (fF s.data.toList=false):=by show _=_;rw[HP.out,hs];rfl
    clear hs HP
    go_wp2_with fail
    go_ret
    exact⟨aF HF.out.symm,hkp⟩
   ·have hb2:s.toList.isEmpty=false:=by rw[ByteArray.toList_eq];simpa using hs
    have HF:Hid (fF s.data.toList=decide ((s.size:Int)≤12)):=by
     show _=_
     rw[HP.out,List.isEmpty_eq_false_iff.2 hs,dlen]
     simp
     omega
    clear hs HP
    go_wp2_with fail
    go_ret
    exact⟨aF HF.out.symm,hkp⟩
end Go.Proofs.YtdkogijdfgfpeaaGreatDoor
namespace Go.Proofs.YtdkogijdfgfpeaaGreatDoor
open Go Go.RowKit
structure dI where
 path:List UInt8
 tree:List Node
 refs:List (List UInt8)
abbrev aH:=List dI
def aA(L:aH)(k:List UInt8):Option dI:=L.find? fun e=>e.path==k
def dB:List (List UInt8)→Bool
 |a :: b :: r=>Op.bytesLess a b&&dB (b :: r)
 |_=>true
def ou(L:aH)(e:dI):aH:=L.takeWhile (fun x=>Op.bytesLess x.path e.path)++e :: L.dropWhile (fun x=>Op.bytesLess x.path e.path)
def jM(a b:dI):Bool:=aJ a.tree==aJ b.tree&&a.refs==b.refs
def qN(L:aH)(name:List UInt8)(l:List Node)(refs:List (List UInt8)):Int×aH:=
 if fF name=false then (11,L)
 else if 0≤bH l then (1,L)
 else if dB refs=false then (7,L)
 else if refs.any (fun r=>r !=name&&(aA L r).isNone)=true then (13,L)
 else match aA L name with
  |some e=>if jM e ⟨name,l,refs⟩ then (0,L) else (12,L)
  |none=>if L.length=10 then (14,L) else (0,ou L ⟨name,l,refs⟩)
structure bK(L:aH):Prop where
 rise:L.Pairwise fun a b=>Op.bytesLess a.path b.path=true
 ten:L.length≤10
 good:∀e∈L,fF e.path=true∧bH e.tree= -1∧dB e.refs=true
 has:∀e∈L,∀r∈e.refs,(aA L r).isSome=true
theorem mg{a b c:List UInt8}(h1:Op.bytesLess a b=true)(h2:Op.bytesLess b c=true):Op.bytesLess a c=true:=by
 rw[nN,decide_eq_true_eq] at *
 exact List.lt_trans h1 h2
theorem iQ(a:List UInt8):Op.bytesLess a a=false:=by
 rw[nN,decide_eq_false_iff_not]
 exact List.lt_irrefl a
theorem uO{a b:List UInt8}(h1:Op.bytesLess a b=false)(h2:a≠b):Op.bytesLess b a=true:=by
 have h:=wR b a
 rw[h1,pY] at h
 simp only[Bool.not_false,Bool.or_eq_true,beq_iff_eq] at h
 exact h.resolve_right fun e=>h2 e.symm
theorem jV{L:aH}{k:List UInt8}{e:dI}(h:aA L k=some e):e∈L∧e.path=k:=by
 unfold aA at h
 exact⟨List.mem_of_find?_eq_some h,by simpa using List.find?_some h⟩
theorem gB{L:aH}{k:List UInt8}:aA L k=none↔∀e∈L,e.path≠k:=by
 unfold aA
 rw[List.find?_eq_none]
 simp
theorem dH{L:aH}{k:List UInt8}:(aA L k).isSome=true↔∃e∈L,e.path=k:=by
 unfold aA
 rw[List.find?_isSome]
 simp
theorem gG{L:aH}{e x:dI}:x∈ou L e↔x=e∨x∈L:=by
 unfold ou
 rw[List.mem_append,List.mem_cons]
 have h:=List.takeWhile_append_dropWhile (p:=fun x:dI=>Op.bytesLess x.path e.path) (l:=L)
 constructor
 ·rintro (h1|h1|h1)
  ·exact .inr (by rw[←h];exact List.mem_append.2 (.inl h1))
  ·exact .inl h1
  ·exact .inr (by rw[←h];exact List.mem_append.2 (.inr h1))
 ·rintro (h1|h1)
  ·exact .inr (.inl h1)
  ·rw[←h] at h1
   rcases List.mem_append.1 h1 with h1|h1
   ·exact .inl h1
   ·exact .inr (.inr h1)
theorem ni(L:aH)(e:dI):(ou L e).length=L.length+1:=by
 unfold ou
 have h:=congrArg List.length (List.takeWhile_append_dropWhile (p:=fun x:dI=>Op.bytesLess x.path e.path) (l:=L))
 rw[List.length_append] at h ⊢
 rw[List.length_cons]
 omega
theorem acH{L:aH}{e:dI}(hr:L.Pairwise fun a b=>Op.bytesLess a.path b.path=true)(hn:aA L e.path=none):∀x∈L.dropWhile (fun x=>Op.bytesLess x.path e.path),Op.bytesLess e.path x.path=true:=by
 induction L with
 |nil=>intro x hx;cases hx
 |cons y r ih=>
  obtain⟨h1,h2⟩:=List.pairwise_cons.1 hr
  have hn2:aA r e.path=none:=gB.2 fun x hx=>gB.1 hn x (List.mem_cons_of_mem _ hx)
  intro x hx
  cases hy:Op.bytesLess y.path e.path with
  |true=>
   rw[List.dropWhile_cons_of_pos (by simp[hy])] at hx
   exact ih h2 hn2 x hx
  |false=>
   rw[List.dropWhile_cons_of_neg (by simp[hy])] at hx
   have hye:Op.bytesLess e.path y.path=true:=uO hy (gB.1 hn y (List.mem_cons_self ..))
   rcases List.mem_cons.1 hx with rfl|hx
   ·exact hye
   ·exact mg hye (h1 x hx)
theorem GK{L:aH}{e:dI}(hr:L.Pairwise fun a b=>Op.bytesLess a.path b.path=true)(hn:aA L e.path=none):(ou L e).Pairwise fun a b=>Op.bytesLess a.path b.path=true:=by
 have hs:=List.takeWhile_append_dropWhile (p:=fun x:dI=>Op.bytesLess x.path e.path) (l:=L)
 have hr2:=hr
 rw[←hs] at hr2
 obtain⟨h1,h2,h3⟩:=List.pairwise_append.1 hr2
 have hge:=acH hr hn
 have hlt:∀x∈L.takeWhile (fun x=>Op.bytesLess x.path e.path),Op.bytesLess x.path e.path=true:=fun x hx=>by
  have:=List.all_takeWhile (p:=fun x:dI=>Op.bytesLess x.path e.path) (l:=L)
  exact List.all_eq_true.1 this x hx
 unfold ou
 refine List.pairwise_append.2 ⟨h1,List.pairwise_cons.2 ⟨hge,h2⟩,fun a ha b hb=>?_⟩
 rcases List.mem_cons.1 hb with rfl|hb
 ·exact hlt a ha
 ·exact h3 a ha b hb
theorem Yr{L:aH}(h:bK L)(name:List UInt8)(l:List Node)(refs:List (List UInt8)):bK (qN L name l refs).2:=by
 unfold qN
 split
 ·exact h
 split
 ·exact h
 split
 ·exact h
 split
 ·exact h
 rename_i h1 h2 h3 h4
 cases hf:aA L name with
 |some e=>
  simp only
  split <;> exact h
 |none=>
  simp only
  split
  ·exact h
  ·rename_i h10
   have hw:bH l= -1:=by
    rcases vO l with e|e
    ·exact e
    ·exact absurd e h2
   refine⟨GK h.rise hf,by rw[ni];have:=h.ten;omega,fun e he=>?_,fun e he r hr=>?_⟩
   ·rcases gG.1 he with rfl|he
    ·exact⟨by simpa using h1,hw,by simpa using h3⟩
    ·exact h.good e he
   ·rw[dH]
    rcases gG.1 he with rfl|he
    ·by_cases hrn:r=name
     ·exact⟨_,gG.2 (.inl rfl),hrn.symm⟩
     ·have h5:¬(refs.any fun r=>r !=name&&(aA L r).isNone)=true:=h4
      rw[List.any_eq_true] at h5
      have h6:(aA L r).isSome=true:=by
       cases hfr:aA L r with
       |some _=>rfl
       |none=>exact absurd ⟨r,hr,by simp[hrn,hfr]⟩ h5
      obtain⟨x,hx,hxe⟩:=dH.1 h6
      exact⟨x,gG.2 (.inr hx),hxe⟩
    ·obtain⟨x,hx,hxe⟩:=dH.1 (h.has e he r hr)
     exact⟨x,gG.2 (.inr hx),hxe⟩
def iK(L:aH)(all out:List (List UInt8))(e:dI):Bool:=all.contains e.path && !out.contains e.path&&e.refs.all fun r=>r==e.path||out.contains r
def qO(L:aH)(all:List (List UInt8)):Nat→List (List UInt8)→List (List UInt8)
 |0,out=>out
 |f+1,out=>match L.find? (iK L all out) with
  |none=>out
  |some e=>qO L all f (out++[e.path])
end Go.Proofs.YtdkogijdfgfpeaaGreatDoor
namespace Go.Proofs.YtdkogijdfgfpeaaGreatDoor
open Go Go.RowKit
section
variable {P:Program} {w:World}
theorem uP(t tx ty E:TypeId)(i:TypeInfo)(z:Value)(size bytes:Nat)(ht:P.underlying t=some (.slice E))(hi:P.info? E=some i)(hz:i.zero=some z)
 (hsize:i.size=size) (hby:i.bytes=bytes) (hzs:z.cells.size=size) (B:Nat) (hB:B≤w.heap.size) (v:Value) (n:Nat) (xs:List Value) (h:Sl w B E size v n xs)
 (x:Value) (m:Nat) (news:List Value) (hs:Src P size tx x m news w) (b1:n+m≤maxLen) (b2:(n+m)*bytes≤140737488355328):
 ∃ao cc w',(Builtin.append_ #[t,tx] ty #[v,x]).run P w=.ok (.slice ao (n+m) cc) w'∧Sl w' B E size (.slice ao (n+m) cc) (n+m) (xs++news)∧Kp B [E] w w'∧Keeps (jC v) w w'∧
  ((Value.slice ao (n+m) cc).ownBlock=v.ownBlock∨(Value.slice ao (n+m) cc).ownBlock=some w.heap.size):=by
 subst hsize
 subst hby
 obtain⟨h1,h2⟩:=h
 have hlen:(xs++news).length=(n+m)*i.size:=by rw[List.length_append,h1,hs.newsLen,Nat.add_mul]
 have hgrow:∀(base:Option Addr) (cap:Nat),v=.slice base n cap→cap<n+m→(Builtin.firstCells i.size n (.slice base n cap)).run P w.drew=.ok xs.toArray w.drew→
  ∃ao cc w',(Builtin.append_ #[t,tx] ty #[v,x]).run P w=.ok (.slice ao (n+m) cc) w'∧Sl w' B E i.size (.slice ao (n+m) cc) (n+m) (xs++news)∧Kp B [E] w w'∧Keeps (jC v) w w'∧
   ((Value.slice ao (n+m) cc).ownBlock=v.ownBlock∨(Value.slice ao (n+m) cc).ownBlock=some w.heap.size):=by
  rintro base cap rfl hg hold
  have hge:=grownCap_ge w (n+m) cap E
  have hcm:grownCap w (n+m) cap E≤maxLen:=grownCap_le_maxLen w (n+m) cap E b1
  have hr:=run_append_grow_src (P:=P) w t tx ty E i z ht hi hz base n cap xs hold x m news hs hg (by unfold maxLen at b1;omega) (growslice_fits hg b2)
  refine⟨_,_,_,hr,⟨hlen,.inr ⟨w.heap.size,0,_,_,rfl,hB,aS.new w.drew _ _,hge,hcm,?_,fun j hj=>?_⟩⟩,(Kp.refl _ _ w).drew.alloc _,(Keeps.refl _ w).drew.alloc _,.inr rfl⟩
  ·simp only[Array.size_append,List.size_toArray,size_zeroCells,hzs,hlen,←Nat.add_mul,Nat.zero_add]
   rw[show n+m+(grownCap w (n+m) cap E-(n+m))=grownCap w (n+m) cap E by omega]
   exact Nat.le_refl _
  ·rw[Nat.zero_add,Array.getElem?_append_left (by simp only[List.size_toArray,hlen];exact hj)]
   simp
 rcases h2 with⟨rfl,rfl⟩|⟨b,off,cap,c,rfl,hBb,hb,h3,h4,h5,h6⟩
 ·obtain rfl:xs=[]:=List.eq_nil_of_length_eq_zero (by simpa using h1)
  by_cases hm:m=0
  ·subst hm
   obtain rfl:news=[]:=List.eq_nil_of_length_eq_zero (by simpa using hs.newsLen)
   have:(Builtin.append_ #[t,tx] ty #[.slice none 0 0,x]).run P w=.ok (.slice none 0 0) w:=by
    rcases hs.kind with⟨e',hk⟩|hk <;> simp[Builtin.append_,run_underlying ht,run_underlying hk,sizeOf,typeInfo,hi,hs.len,hs.cells]
   exact⟨_,_,_,this,Sl.nil _ _ _ _,Kp.refl _ _ _,Keeps.refl _ _,.inl rfl⟩
  ·exact hgrow none 0 rfl (by omega) (by simp[Builtin.firstCells])
 ·have hcells:∀(w1:World),w1.cell? =w.cell? →(Builtin.firstCells i.size n (.slice (some ⟨b,off,none⟩) n cap)).run P w1=.ok xs.toArray w1:=fun w1 hw1=>
   run_firstCells_some w1 i.size n ⟨b,off,none⟩ n cap xs h1 (fun j u hj=>by
    rw[Addr.add_lit,hw1,hb.cell,h6 j (by rw[←h1];exact(List.getElem?_eq_some_iff.1 hj).1)]
    exact hj)
  by_cases hr:n+m≤cap
  ·have hnc:n*i.size+news.length≤cap*i.size:=by rw[hs.newsLen,←Nat.add_mul];exact Nat.mul_le_mul_right _ hr
   have hrun:=run_append_room_src (P:=P) w t tx ty E i ht hi b off n cap x m news hs hr
    (fun j hj=>by rw[hb.cell];simp;omega) (fun j hj=>hb.free _)
   obtain⟨c',g1,g2,g3,g4⟩:=aS.setCells (w:=w) news (off+n*i.size) w c hb
   have hkk:Keeps (One b) w (w.setCells b (off+n*i.size) news):=Keeps.setCells (S:=One b) (.inl rfl) _ _ _ (Keeps.refl _ _)
   refine⟨_,_,_,hrun,⟨hlen,.inr ⟨b,off,cap,c',rfl,hBb,g1,hr,h4,by omega,fun j hj=>?_⟩⟩,⟨hkk.os,hkk.tape,hkk.output,hkk.size,fun k hk=>?_⟩,hkk.mono (fun k _ e=>by cases e;rfl),.inl rfl⟩
   ·by_cases hjn:j<n*i.size
    ·rw[g3 _ (.inl (by omega)),h6 j hjn,List.getElem?_append_left (by omega)]
    ·have hk:=hs.newsLen
     rw[Nat.add_mul] at hj
     rw[show off+j=off+n*i.size+(j-n*i.size) by omega,g4 (by omega) _ (by omega),List.getElem?_append_right (by omega),h1]
   ·by_cases e:k=b
    ·subst e;exact .inr ⟨hBb,c,c',E,by simp,hb,g1⟩
    ·exact .inl (hkk.block k hk e)
  ·exact hgrow _ cap rfl (by omega) (hcells w.drew (by funext a;rfl))
theorem ay{ops:Array Oper}{rest:List Oper}{o:Oper}{a:Act}{Q:Exit→Act→World→Prop}(hgd:o.guard=none)(s x:Operand)(t tx:TypeId)
 (hop:o.op=Op.call {callee:=Callee.builtin Builtin.append,args:=#[s,x],argTypes:=#[t,tx]})
 (E:TypeId) (i:TypeInfo) (z:Value) (size bytes:Nat) (ht:P.underlying t=some (.slice E)) (hi:P.info? E=some i) (hz:i.zero=some z)
 (hsize:i.size=size) (hby:i.bytes=bytes) (hzs:z.cells.size=size) (B:Nat) (v:Value) (n:Nat) (xs:List Value) (hv:a.eval s=v) (xv:Value) (hxv:a.eval x=xv)
 (m:Nat) (news:List Value) (hB:B≤w.heap.size) (h:Sl w B E size v n xs) (hs:Src P size tx xv m news w) (b1:n+m≤maxLen) (b2:(n+m)*bytes≤140737488355328)
 (hK:∀ao cc w',Sl w' B E size (.slice ao (n+m) cc) (n+m) (xs++news)→Kp B [E] w w'→Keeps (jC v) w w'→((Value.slice ao (n+m) cc).ownBlock=v.ownBlock∨(Value.slice ao (n+m) cc).ownBlock=some w.heap.size)→wpList P ops Q rest (a.put o.dst (.slice ao (n+m) cc)) w'):
 wpList P ops Q (o :: rest) a w:=by
 refine wpList_plain hgd fun K hK'=>?_
 obtain⟨ao,cc,w',hrun,r1,r2,r3,r4⟩:=uP (P:=P) t tx o.type E i z size bytes ht hi hz hsize hby hzs B hB v n xs h xv m news hs b1 b2
 unfold Oper.wp
 simp[execOp,hop,resolve,invoke,builtin,hv,hxv,hrun,Result.andThen]
 exact hK' _ _ (hK ao cc w' r1 r2 r3 r4)
theorem oL{ops:Array Oper}{o:Oper}{a:Act}{K:Act→World→Prop}{Q:Exit→Act→World→Prop}{F:Prop}(hgd:o.guard=none)(s x:Operand)(t tx:TypeId)
 (hop:o.op=Op.call {callee:=Callee.builtin Builtin.append,args:=#[s,x],argTypes:=#[t,tx]})
 (E:TypeId) (i:TypeInfo) (z:Value) (size bytes:Nat) (ht:P.underlying t=some (.slice E)) (hi:P.info? E=some i) (hz:i.zero=some z)
 (hsize:i.size=size) (hby:i.bytes=bytes) (hzs:z.cells.size=size) (B:Nat) (v:Value) (n:Nat) (xs:List Value) (hv:a.eval s=v) (xv:Value) (hxv:a.eval x=xv)
 (m:Nat) (news:List Value) (hB:B≤w.heap.size) (h:Sl w B E size v n xs) (hs:Src P size tx xv m news w) (b1:n+m≤maxLen) (b2:(n+m)*bytes≤140737488355328)
 (hK:∀ao cc w',Sl w' B E size (.slice ao (n+m) cc) (n+m) (xs++news)→Kp B [E] w w'→Keeps (jC v) w w'→((Value.slice ao (n+m) cc).ownBlock=v.ownBlock∨(Value.slice ao (n+m) cc).ownBlock=some w.heap.size)→K (a.put o.dst (.slice ao (n+m) cc)) w'):
 if Region.wanted o (yielded ops a.tmps)=true then Oper.wp P o a w K Q else F:=by
 have hw:Region.wanted o (yielded ops a.tmps)=true:=by simp[Region.wanted,hgd]
 rw[if_pos hw]
 obtain⟨ao,cc,w',hrun,r1,r2,r3,r4⟩:=uP (P:=P) t tx o.type E i z size bytes ht hi hz hsize hby hzs B hB v n xs h xv m news hs b1 b2
 unfold Oper.wp
 simp[execOp,hop,resolve,invoke,builtin,hv,hxv,hrun,Result.andThen]
 exact hK ao cc w' r1 r2 r3 r4
end
end Go.Proofs.YtdkogijdfgfpeaaGreatDoor

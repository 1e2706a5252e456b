/- (*Store).Get. -/
import Derived.Test.YtdkogijdfgfpeaaGreatDoorZMap
import Derived.Test.YtdkogijdfgfpeaaGreatDoorZLState
import Derived.Test.YtdkogijdfgfpeaaGreatDoorZPackw
import Derived.Test.YtdkogijdfgfpeaaGreatDoorZStr
import Derived.Test.YtdkogijdfgfpeaaGreatDoorRows
set_option linter.unusedVariables false
set_option maxHeartbeats 3200000
set_option maxRecDepth 100000
namespace Go.Proofs.YtdkogijdfgfpeaaGreatDoor
open Go Go.RowKit
theorem Sl.non{w w':World}{B:Nat}{E:TypeId}{size:Nat}{v:Value}{n:Nat}{xs:List Value}(h:Sl w B E size v n xs)(k:Keeps Non w w'):Sl w' B E size v n xs:=h.keep fun _ _ _ _ hb=>hb.keeps k fun h=>h
theorem Keeps.un{S:Nat→Prop}{a w:World}(h:Keeps S a.drew w):Keeps S a w:=⟨h.os,h.tape,h.output,h.size,h.block⟩
theorem Keeps.tn{a b c:World}(h:Keeps Non a b)(k:Keeps Non b c):Keeps Non a c:=h.trans k fun _ h=>h.elim
theorem Vb{w W w':World}{rb tl rl:Nat}{vt vr:Value}{xs ys:List Value}(vJ:Keeps Non w W)(HB0:aS W rb #[.slice none 0 0,.slice none 0 0,.string ⟨#[]⟩] 52)(xJ:rb=w.heap.size)(hc:Keeps Non W w')(hn:Sl w' W.heap.size 49 3 vt tl xs)(hs:Sl w' W.heap.size 9 1 vr rl ys)(sum:ByteArray):
 aS (((w'.setCell ⟨rb,0,none⟩ vt).setCell ⟨rb,1,none⟩ vr).setCell ⟨rb,2,none⟩ (.string sum)) rb #[vt,vr,.string sum] 52∧
  Sl (((w'.setCell ⟨rb,0,none⟩ vt).setCell ⟨rb,1,none⟩ vr).setCell ⟨rb,2,none⟩ (.string sum)) w.heap.size 49 3 vt tl xs∧Sl (((w'.setCell ⟨rb,0,none⟩ vt).setCell ⟨rb,1,none⟩ vr).setCell ⟨rb,2,none⟩ (.string sum)) w.heap.size 9 1 vr rl ys∧
  Keeps Non w (((w'.setCell ⟨rb,0,none⟩ vt).setCell ⟨rb,1,none⟩ vr).setCell ⟨rb,2,none⟩ (.string sum)):=by
 have hlt:=HB0.lt
 have hge:w.heap.size≤rb:=Nat.le_of_eq xJ.symm
 have hb:=HB0.keeps hc fun h=>h
 refine⟨?_,?_,?_,?_⟩
 ·simpa using ((hb.set 0 vt).set 1 vr).set 2 (.string sum)
 ·refine(hn.keep fun b c _ hB hbk=>?_).mono vJ.size
  have hne:b≠rb:=by omega
  exact((hbk.jT _ _ hne).jT _ _ hne).jT _ _ hne
 ·refine(hs.keep fun b c _ hB hbk=>?_).mono vJ.size
  have hne:b≠rb:=by omega
  exact((hbk.jT _ _ hne).jT _ _ hne).jT _ _ hne
 ·exact((((vJ.tn hc).setCell _ _ (.inr hge)).setCell _ _ (.inr hge)).setCell _ _ (.inr hge))
def GetPost(w:World)(L:aH)(name:List UInt8)(ed:Ending)(w':World):Prop:=
 (aA L name=none∧ed=.returned (.tuple #[.agg #[.slice none 0 0,.slice none 0 0,.string ⟨#[]⟩],.int .i64 15])∧Keeps Non w w')∨
 ∃e vt vr,aA L name=some e∧ed=.returned (.tuple #[.agg #[vt,vr,.string (sumOf (aJ e.tree))],.int .i64 0])∧Sl w' w.heap.size 49 3 vt e.tree.length (ak e.tree)∧Sl w' w.heap.size 9 1 vr e.refs.length (bf e.refs)∧Keeps Non w w'
theorem get_any{F:Nat→Prop}{s:Nat}{L:aH}(w:World)(h:aU w F s L)(name:List UInt8)(hn:name.length≤1099511627776):
 Calls Tryz.prog 25 #[pv s,sv name] w (GetPost w L name):=by
 have HS:=Lib.hid h
 have yc:Hid (Tryz.prog.underlying 82=some (.map 9 81)):=Tryz.underlying82
 clear h
 unfold pv sv
 go_enter Tryz.func25,Tryz.ntmps25
 go_upto_region 1 with(fail)
 have hk0:Keeps Non w (w.alloc (.cells #[.slice none 0 0,.slice none 0 0,.string ⟨#[]⟩] 52)):=(Keeps.refl _ _).alloc _
 have hb0:=aS.new w #[.slice none 0 0,.slice none 0 0,.string ⟨#[]⟩] 52
 obtain⟨W,hW⟩:∃W,W=w.alloc (.cells #[.slice none 0 0,.slice none 0 0,.string ⟨#[]⟩] 52):=⟨_,rfl⟩
 obtain⟨rb,hrb⟩:∃rb,rb=w.heap.size:=⟨_,rfl⟩
 rw[←hW] at hk0 hb0
 rw[←hrb] at hb0
 rw[←hW,←hrb]
 have vJ:=Lib.hid hk0
 have HB0:=Lib.hid hb0
 have xJ:=Lib.hid hrb
 have X5:=Lib.hid (HS.out.non hk0)
 clear hW hrb hk0 hb0
 obtain⟨mb,m,g1,g2,g3,g4,g5,g6⟩:=X5.out.map
 have cs:=g2.cell 0
 simp only[List.getElem?_toArray,List.getElem?_cons_zero] at cs
 have KG:=Lib.hid g3
 rcases aU.look g3 g5 g6 name with⟨hf,hg⟩|⟨e,q,hf,hel,oz,hg,hE⟩
 ·have iG:Hid ((getM m name).getD (.pointer none)=.pointer none):=by show _=_;rw[hg];rfl
  have wX:=Lib.hid hf
  have r0:=HB0.out.cell 0
  have r1:=HB0.out.cell 1
  have r2:=HB0.out.cell 2
  have f0:=HB0.out.free 0
  have f1:=HB0.out.free 1
  have f2:=HB0.out.free 2
  simp only[List.getElem?_toArray,List.getElem?_cons_zero,List.getElem?_cons_succ] at r0 r1 r2
  clear hf hg g1 g2 g3 g4 g5 g6
  go_wp2_with (first|(at_lookup;refine eG _ rfl _ _ _ rfl _ _ yc.out Tryz.underlying9 (.pointer none) (Tryz.zeroValue81 _) mb m rfl KG.out name rfl hn ?_;rw[iG.out]))
  have hb3:=((HB0.out.set 0 (.slice none 0 0)).set 1 (.slice none 0 0)).set 2 (.string ⟨#[]⟩)
  have hk3:Keeps Non w (((W.setCell ⟨rb,0,none⟩ (.slice none 0 0)).setCell ⟨rb,1,none⟩ (.slice none 0 0)).setCell ⟨rb,2,none⟩ (.string ⟨#[]⟩)):=((vJ.out.setCell _ _ (.inr (Nat.le_of_eq xJ.out.symm))).setCell _ _ (.inr (Nat.le_of_eq xJ.out.symm))).setCell _ _ (.inr (Nat.le_of_eq xJ.out.symm))
  generalize ((W.setCell ⟨rb,0,none⟩ (.slice none 0 0)).setCell ⟨rb,1,none⟩ (.slice none 0 0)).setCell ⟨rb,2,none⟩ (.string ⟨#[]⟩)=w3 at *
  have t0:=hb3.cell 0
  have t1:=hb3.cell 1
  have t2:=hb3.cell 2
  simp at t0 t1 t2
  refine bodyPost_ret (v:=.tuple #[.agg #[.slice none 0 0,.slice none 0 0,.string ⟨#[]⟩],.int .i64 15]) (by simp[results,Tryz.results25,go_sem,t0,t1,t2]) rfl ?_
  exact .inl ⟨wX.out,rfl,hk3⟩
 ·have iG:Hid ((getM m name).getD (.pointer none)=.pointer (some ⟨q,0,none⟩)):=by show _=_;rw[hg];rfl
  have wX:=Lib.hid hf
  have qg:=Lib.hid (HS.out.fit e hel)
  have Vd:=Lib.hid (HS.out.ok.good e hel)
  obtain⟨ho,vt,vr,h1,h2,h3,h4,h5⟩:=hE
  have HB:=Lib.hid h1
  have HT:=Lib.hid h2
  have HR:=Lib.hid h3
  clear hf hg g1 g2 g3 g4 g5 g6 hel oz ho h1 h2 h3 h4 h5
  go_upto_region 4 with(first|(at_lookup;refine eG _ rfl _ _ _ rfl _ _ yc.out Tryz.underlying9 (.pointer none) (Tryz.zeroValue81 _) mb m rfl KG.out name rfl hn ?_;rw[iG.out]))
  obtain⟨va,vc,rfl,-,-⟩:=HT.out.shape
  obtain⟨ua,uc,rfl,-,-⟩:=HR.out.shape
  have htl:e.tree.length≤1099511627776:=by
   have h1:=Vd.out.2.1
   unfold bH at h1
   split at h1
   ·cases h1
   ·have:=wV e.tree 0 [] h1 (by omega)
    omega
  have HCN:Hid (∀wx,Keeps Non W wx→Calls Tryz.prog 57 #[.slice va e.tree.length vc] wx fun ed w'=>∃v',ed=.returned v'∧Sl w' W.heap.size 49 3 v' e.tree.length (ak e.tree)∧Keeps Non wx w'):=fun wx hk=>(DC e.tree _ wx (HT.out.non hk) htl).mono (by rintro ed w' ⟨v',rfl,h1,h2⟩;exact⟨v',rfl,h1.mono hk.size,h2⟩)
  have X6:Hid (∀wx,Keeps Non W wx→Calls Tryz.prog 58 #[.slice ua e.refs.length uc] wx fun ed w'=>∃v',ed=.returned v'∧Sl w' W.heap.size 9 1 v' e.refs.length (bf e.refs)∧Keeps Non wx w'):=fun wx hk=>(Dz e.refs _ wx (HR.out.non hk) qg.out.refs).mono (by rintro ed w' ⟨v',rfl,h1,h2⟩;exact⟨v',rfl,h1.mono hk.size,h2⟩)
  have Jc:Hid (∀wx,Calls Tryz.prog 42 #[.string ⟨(aJ e.tree).toArray⟩] wx fun ed w'=>ed=.returned (.string (sumOf (aJ e.tree)))∧Keeps Non wx w'):=fun wx=>(sum_any _ wx (by show(aJ e.tree).toArray.size≤_;have:=qg.out.pack;simp[maxLen];omega))
  have q0:=HB.out.cell 0
  have q1:=HB.out.cell 1
  have q2:=HB.out.cell 2
  simp only[List.getElem?_toArray,List.getElem?_cons_zero,List.getElem?_cons_succ] at q0 q1 q2
  unfold sv at q0
  have hc:Keeps Non W W:=Keeps.refl _ _
  go_region_with (first
   |(go_at_call 57;refine(HCN.out _ (by first|exact hc|exact hc.drew)).mono ?_;rintro ed w' ⟨v1,rfl,hn1,hk⟩;obtain⟨na,nc,rfl,-,-⟩:=hn1.shape;(try replace hs1:=hs1.non (by first|exact hk|exact hk.un));replace hc:=Keeps.tn hc (by first|exact hk|exact hk.un);clear hk;have q0:=(HB.out.keeps hc (fun h=>h)).cell 0;have q1:=(HB.out.keeps hc (fun h=>h)).cell 1;have q2:=(HB.out.keeps hc (fun h=>h)).cell 2;have hbb:=HB0.out.keeps hc (fun h=>h);have r0:=hbb.cell 0;have r1:=hbb.cell 1;have r2:=hbb.cell 2;have f0:=hbb.free 0;have f1:=hbb.free 1;have f2:=hbb.free 2;clear hbb;simp only[List.getElem?_toArray,List.getElem?_cons_zero,List.getElem?_cons_succ,sv] at q0 q1 q2 r0 r1 r2)
   |(go_at_call 58;refine(X6.out _ (by first|exact hc|exact hc.drew)).mono ?_;rintro ed w' ⟨v1,rfl,hs1,hk⟩;obtain⟨sa,sc,rfl,-,-⟩:=hs1.shape;(try replace hn1:=hn1.non (by first|exact hk|exact hk.un));replace hc:=Keeps.tn hc (by first|exact hk|exact hk.un);clear hk;have q0:=(HB.out.keeps hc (fun h=>h)).cell 0;have q1:=(HB.out.keeps hc (fun h=>h)).cell 1;have q2:=(HB.out.keeps hc (fun h=>h)).cell 2;have hbb:=HB0.out.keeps hc (fun h=>h);have r0:=hbb.cell 0;have r1:=hbb.cell 1;have r2:=hbb.cell 2;have f0:=hbb.free 0;have f1:=hbb.free 1;have f2:=hbb.free 2;clear hbb;simp only[List.getElem?_toArray,List.getElem?_cons_zero,List.getElem?_cons_succ,sv] at q0 q1 q2 r0 r1 r2)
   |(go_at_call 42;refine(Jc.out _).mono ?_;rintro ed w' ⟨rfl,hk⟩;(try replace hs1:=hs1.non (by first|exact hk|exact hk.un));(try replace hn1:=hn1.non (by first|exact hk|exact hk.un));replace hc:=Keeps.tn hc (by first|exact hk|exact hk.un);clear hk;have q0:=(HB.out.keeps hc (fun h=>h)).cell 0;have q1:=(HB.out.keeps hc (fun h=>h)).cell 1;have q2:=(HB.out.keeps hc (fun h=>h)).cell 2;have hbb:=HB0.out.keeps hc (fun h=>h);have r0:=hbb.cell 0;have r1:=hbb.cell 1;have r2:=hbb.cell 2;have f0:=hbb.free 0;have f1:=hbb.free 1;have f2:=hbb.free 2;clear hbb;simp only[List.getElem?_toArray,List.getElem?_cons_zero,List.getElem?_cons_succ,sv] at q0 q1 q2 r0 r1 r2))
  all_goals (
   obtain⟨hb3,hn3,hs3,hk3⟩:=Vb vJ.out HB0.out xJ.out hc hn1 hs1 (sumOf (aJ e.tree))
   generalize ((w'.setCell ⟨rb,0,none⟩ (.slice na e.tree.length nc)).setCell ⟨rb,1,none⟩ (.slice sa e.refs.length sc)).setCell ⟨rb,2,none⟩ (.string (sumOf (aJ e.tree)))=w3 at *
   have t0:=hb3.cell 0
   have t1:=hb3.cell 1
   have t2:=hb3.cell 2
   simp only[List.getElem?_toArray,List.getElem?_cons_zero,List.getElem?_cons_succ] at t0 t1 t2
   have HN3:=Lib.hid hn3
   have CJ:=Lib.hid hs3
   have kL:=Lib.hid hk3
   clear hb3 hn3 hs3 hk3 hn1 hs1 hc q0 q1 q2 r0 r1 r2 f0 f1 f2
   go_wp2_with fail
   refine bodyPost_ret (v:=.tuple #[.agg #[.slice na e.tree.length nc,.slice sa e.refs.length sc,.string (sumOf (aJ e.tree))],.int .i64 0]) (by simp[results,Tryz.results25,go_sem,t0,t1,t2]) rfl ?_
   exact .inr ⟨e,_,_,wX.out,rfl,HN3.out,CJ.out,kL.out⟩)
end Go.Proofs.YtdkogijdfgfpeaaGreatDoor
namespace Go.Proofs.YtdkogijdfgfpeaaGreatDoor
open Go Go.RowKit Go.WideShapes Go.ChangeShapes Go.ChangeAt
def Jd(l:List Int):List Value:=l.map fun z=>.int .i64 z
structure xK where
 kind:Int
 a:Int
 c:Int
 s:ByteArray
 b:ByteArray
 vl:Value
 vm:Value
 vd:Value
 l:List Node
 m:List (List UInt8)
 d:List Int
def opC(o:xK):List Value:=[.int .i64 o.kind,.int .i64 o.a,.int .i64 o.c,.string o.s,.string o.b,o.vl,o.vm,o.vd]
def I64(z:Int):Prop:= -9223372036854775808≤z∧z≤9223372036854775807
structure uZ(W:World)(o:xK):Prop where
 ik:I64 o.kind
 ia:I64 o.a
 ic:I64 o.c
 ls:o.s.size≤1048576
 lb:o.b.size≤1048576
 rl:Rd W 3 o.vl o.l.length (ak o.l)
 nl:∀x∈o.l,x.path.length≤1048576∧x.data.length≤1048576
 ll:o.l.length≤1048576
 rm:Rd W 1 o.vm o.m.length (bf o.m)
 nm:∀x∈o.m,x.length≤1048576
 lm:o.m.length≤1048576
 rd:Rd W 1 o.vd o.d.length (Jd o.d)
 nd:∀z∈o.d,I64 z
 ld:o.d.length≤1048576
def Cb(l:List xK):List Value:=l.flatMap opC
theorem KH{α β:Type}(cell:α→List β)(size:Nat)(hcl:∀a,(cell a).length=size):∀l:List α,(l.flatMap cell).length=l.length*size
 | []=>by simp
 |a :: r=>by
  rw[List.flatMap_cons,List.length_append,hcl,KH cell size hcl r,List.length_cons,Nat.succ_mul,Nat.add_comm]
theorem Je{α β:Type}(cell:α→List β)(size:Nat)(hcl:∀a,(cell a).length=size):∀(l:List α) (i j:Nat) (a:α),l[i]? =some a→j<size→(l.flatMap cell)[i*size+j]? =(cell a)[j]?
 | [],i,j,a,h,hj=>by simp at h
 |x :: r,0,j,a,h,hj=>by
  simp only[List.getElem?_cons_zero,Option.some.injEq] at h
  subst h
  rw[List.flatMap_cons,Nat.zero_mul,Nat.zero_add,List.getElem?_append_left (by rw[hcl];exact hj)]
 |x :: r,i+1,j,a,h,hj=>by
  rw[List.flatMap_cons,List.getElem?_append_right (by rw[hcl,Nat.succ_mul];omega),hcl,Nat.succ_mul,show i*size+size+j-size=i*size+j by omega]
  exact Je cell size hcl r i j a (by simpa using h) hj
section
variable {H:Type} {enc:TypeId×Value→H} {P:Program} {W:World}
theorem lC(d:DataW H):1≤Rows.uptoBulk d:=by
 match d with
 | .lit (.string b)=>rw[Rows.uptoBulk];omega
 | .lit (.int k z)=>simp[Rows.uptoBulk]
 | .lit (.bool z)=>simp[Rows.uptoBulk]
 | .lit (.float k z)=>simp[Rows.uptoBulk]
 | .lit .nil=>simp[Rows.uptoBulk]
 | .nil=>simp[Rows.uptoBulk]
 | .ptr d=>simp[Rows.uptoBulk]
 | .slice a b=>simp[Rows.uptoBulk]
 | .agg a=>simp[Rows.uptoBulk]
 | .iface a b=>simp[Rows.uptoBulk]
 | .map a=>simp[Rows.uptoBulk]
 | .held a=>simp[Rows.uptoBulk]
theorem KI{d:DataW H}:∀l:List (DataW H),d∈l→Rows.uptoBulk d≤Rows.uptoBulkAll l
 | [],h=>by simp at h
 |x :: r,h=>by
  rw[Rows.uptoBulkAll]
  rcases List.mem_cons.1 h with rfl|h
  ·omega
  ·have:=KI r h
   omega
theorem KJ(m:Nat):∀l:List (DataW H),(∀d∈l,m≤Rows.uptoBulk d)→l.length*m≤Rows.uptoBulkAll l
 | [],h=>by simp[Rows.uptoBulkAll]
 |x :: r,h=>by
  have h1:=h x (List.mem_cons_self ..)
  have h2:=KJ m r fun d hd=>h d (List.mem_cons_of_mem _ hd)
  rw[Rows.uptoBulkAll,List.length_cons,Nat.succ_mul]
  omega
theorem open_list{t e:TypeId}(ht:P.underlying t=some (.slice e)){size:Nat}(hc:P.cellsOf e=size)(hpos:0<size){α:Type} [Inhabited α](cell:α→List Value)(hcl:∀a,(cell a).length=size)(Q:α→Prop)(low:Nat)
 (he:∀fuel cs x,DataW.trod enc P W 0 (fun _=>true) true fuel e cs=some x→Rows.uptoBulk x.1≤1048576→low≤Rows.uptoBulk x.1∧∃a,cs=cell a∧Q a)
 {fuel:Nat} {cs:List Value} {x:DataW H×List MemPlace} (h:DataW.trod enc P W 0 (fun _=>true) true fuel t cs=some x) (hz:Rows.uptoBulk x.1≤1048576):
 ∃(v:Value) (l:List α),cs=[v]∧Rd W size v l.length (l.flatMap cell)∧(∀a∈l,Q a)∧l.length*low≤1048576:=by
 rcases Deep.open_slice ht h with⟨rfl,rfl⟩|⟨a,len,cap,m,n,D,Pl,rfl,hb,hl,hcm,hm,rfl,hi⟩
 ·exact⟨_,[],rfl,⟨by simp,.inl ⟨_,_,rfl,rfl,by simp[maxLen]⟩⟩,by simp,by simp⟩
 ·simp only[if_true] at hm
  subst hm
  rw[hc] at hi
  have hall:Rows.uptoBulkAll ((List.range len).map D)≤1048576:=by
   have:=hz
   simp only[Rows.uptoBulk] at this
   omega
  have hmem:∀i,i<len→Rows.uptoBulk (D i)≤1048576:=fun i hil=>Nat.le_trans (KI _ (List.mem_map.2 ⟨i,List.mem_range.2 hil,rfl⟩)) hall
  have hel:∀i,i<len→∃y:α,W.cells? 0 (a.add (i*size)) size=some (cell y)∧Q y:=by
   intro i hil
   obtain⟨cs,hc,ht⟩:=hi i (by omega)
   obtain⟨-,y,rfl,hq⟩:=he n cs _ ht (hmem i hil)
   exact⟨y,hc,hq⟩
  obtain⟨F,hF⟩:=Deep.choose_lt hel
  have hlen:((List.range len).map F).length=len:=by simp
  refine⟨_,(List.range len).map F,rfl,?_,?_,?_⟩
  ·rw[hlen]
   refine⟨by rw[KH cell size hcl,hlen],?_⟩
   by_cases h0:len=0
   ·subst h0
    exact .inl ⟨_,_,rfl,rfl,hcm⟩
   ·right
    have hc0:∀i,i<len→∀j,j<size→W.cell? ((a.add (i*size)).add j)=(cell (F i))[j]? :=fun i hil=>(World.cells?_some (hF i hil).1).2.2
    have hne:∀j,j<size→∃u,(cell (F 0))[j]? =some u:=fun j hj=>⟨_,List.getElem?_eq_getElem (by rw[hcl];exact hj)⟩
    obtain⟨u0,hu0⟩:=hne 0 hpos
    have h00:W.cell? a=some u0:=by
     have:=hc0 0 (by omega) 0 hpos
     simp only[Nat.zero_mul,Addr.add,if_true] at this
     exact this.trans hu0
    have hsp:a.spot=none:=World.cell?_spot h00
    obtain⟨b,off,sp⟩:=a
    simp only at hsp
    subst hsp
    have hbl:b<W.heap.size:=by
     rcases Nat.lt_or_ge b W.heap.size with h'|h'
     ·exact h'
     ·rw[World.cell?,Array.getElem?_eq_none h'] at h00;cases h00
    refine⟨b,off,m,rfl,hl,hcm,hbl,fun j hj=>?_⟩
    have hd:j / size<len:=Nat.div_lt_of_lt_mul (by rw[Nat.mul_comm];exact hj)
    have hr:j % size<size:=Nat.mod_lt _ hpos
    have hdm:j / size*size+j % size=j:=by rw[Nat.mul_comm];exact Nat.div_add_mod j size
    have hq:=hc0 (j / size) hd (j % size) hr
    rw[Addr.add_lit,Addr.add_lit,Nat.add_assoc,hdm] at hq
    rw[hq,←Je cell size hcl ((List.range len).map F) (j / size) (j % size) (F (j / size)) (by simp[hd]) hr,hdm]
  ·intro y hy
   obtain⟨i,hil,rfl⟩:=List.mem_map.1 hy
   exact(hF i (List.mem_range.1 hil)).2
  ·have h1:=KJ low ((List.range len).map D) (by
    intro d hd
    obtain⟨i,hil,rfl⟩:=List.mem_map.1 hd
    have hil:=List.mem_range.1 hil
    obtain⟨cs,hc,ht⟩:=hi i (by omega)
    exact(he n cs _ ht (hmem i hil)).1)
   simp only[List.length_map,List.length_range] at h1 ⊢
   omega
end
theorem Rl:Tryz.prog.cellsOf 3=1:=by kernel_rfl
theorem Qk:Tryz.prog.cellsOf 67=8:=by kernel_rfl
section
variable {H:Type} {enc:TypeId×Value→H} {W:World}
theorem wY{w:World}{base:Nat}{spare:Nat→Bool}{held:Bool}{fuel:Nat}{cs:List Value}{x:DataW H×List MemPlace}(h:DataW.trod enc Tryz.prog w base spare held fuel 3 cs=some x):∃z:Int,cs=[.int .i64 z]∧I64 z:=by
 obtain⟨k,e1,z1,hw⟩:=DataW.trod_int Tryz.underlying3 h
 refine⟨k,e1,?_⟩
 simp[Lit.wf,IntKind.min,IntKind.max,IntKind.signed,IntKind.bits] at hw
 unfold I64
 omega
theorem AA{fuel:Nat}{cs:List Value}{x:DataW H×List MemPlace}(h:DataW.trod enc Tryz.prog W 0 (fun _=>true) true fuel 9 cs=some x)(hz:Rows.uptoBulk x.1≤1048576):∃s:ByteArray,cs=[.string s]∧s.size≤1048576:=by
 obtain⟨s,rfl,rfl,-⟩:=DataW.trod_string Tryz.underlying9 h
 refine⟨s,rfl,?_⟩
 simp only[Rows.uptoBulk] at hz
 rw[dlen] at hz
 omega
theorem YA{fuel:Nat}{cs:List Value}{x:DataW H×List MemPlace}(h:DataW.trod enc Tryz.prog W 0 (fun _=>true) true fuel 50 cs=some x)(hz:Rows.uptoBulk x.1≤1048576):
 ∃(v:Value) (l:List Node),cs=[v]∧Rd W 3 v l.length (ak l)∧(∀x∈l,x.path.length≤1048576∧x.data.length≤1048576)∧l.length≤1048576:=by
 obtain⟨v,l,h1,h2,h3,h4⟩:=open_list Tryz.underlying50 GH (by omega) yS (fun a=>rfl) (fun nd=>nd.path.length≤1048576∧nd.data.length≤1048576) 1 (fun fuel cs x h hw=>by
  refine⟨lC _,?_⟩
  obtain⟨nd,rfl,hd⟩:=open_node h
  refine⟨nd,rfl,?_⟩
  rw[hd] at hw
  simp only[Rows.uptoBulk,Rows.uptoBulkAll] at hw
  simp at hw
  omega) h hz
 exact⟨v,l,h1,h2,h3,by omega⟩
theorem YB{fuel:Nat}{cs:List Value}{x:DataW H×List MemPlace}(h:DataW.trod enc Tryz.prog W 0 (fun _=>true) true fuel 26 cs=some x)(hz:Rows.uptoBulk x.1≤1048576):
 ∃(v:Value) (l:List (List UInt8)),cs=[v]∧Rd W 1 v l.length (bf l)∧(∀a∈l,a.length≤1048576)∧l.length≤1048576:=by
 obtain⟨v,l,h1,h2,h3,h4⟩:=open_list Tryz.underlying26 U1 (by omega) (fun s:List UInt8=>[sv s]) (fun a=>rfl) (fun s=>s.length≤1048576) 1 (fun fuel cs x h hw=>by
  refine⟨lC _,?_⟩
  obtain⟨s,rfl,hd⟩:=AA h hw
  exact⟨s.data.toList,rfl,by rw[dlen];exact hd⟩) h hz
 refine⟨v,l,h1,?_,h3,by omega⟩
 have:bf l=l.flatMap fun s=>[sv s]:=by
  unfold bf
  exact List.map_eq_flatMap
 rw[this]
 exact h2
theorem YC{fuel:Nat}{cs:List Value}{x:DataW H×List MemPlace}(h:DataW.trod enc Tryz.prog W 0 (fun _=>true) true fuel 65 cs=some x)(hz:Rows.uptoBulk x.1≤1048576):
 ∃(v:Value) (l:List Int),cs=[v]∧Rd W 1 v l.length (Jd l)∧(∀a∈l,I64 a)∧l.length≤1048576:=by
 obtain⟨v,l,h1,h2,h3,h4⟩:=open_list Tryz.underlying65 Rl (by omega) (fun z:Int=>[Value.int .i64 z]) (fun a=>rfl) I64 1 (fun fuel cs x h hw=>⟨lC _,wY h⟩) h hz
 refine⟨v,l,h1,?_,h3,by omega⟩
 have:∀l:List Int,Jd l=l.flatMap fun z=>[Value.int .i64 z]:=by
  intro l
  unfold Jd
  induction l with
  |nil=>rfl
  |cons a r ih=>rw[List.map_cons,List.flatMap_cons,ih];rfl
 rw[this]
 exact h2
instance:Inhabited xK:=⟨⟨0,0,0,⟨#[]⟩,⟨#[]⟩,.slice none 0 0,.slice none 0 0,.slice none 0 0,[],[],[]⟩⟩
theorem YD{fuel:Nat}{cs:List Value}{x:DataW H×List MemPlace}(h:DataW.trod enc Tryz.prog W 0 (fun _=>true) true fuel 67 cs=some x)(hz:Rows.uptoBulk x.1≤1048576):9≤Rows.uptoBulk x.1∧∃o:xK,cs=opC o∧uZ W o:=by
 obtain⟨xs,n,rfl,rfl,hl,hxl,hf⟩:=DataW.trod_struct Tryz.underlying67 h
 rw[Qk] at hl
 obtain⟨c0,c1,c2,c3,c4,c5,c6,c7,rfl⟩:∃a b c d e f g h,cs=[a,b,c,d,e,f,g,h]:=by
  match cs,hl with
  | [a,b,c,d,e,f,g,h],_=>exact⟨a,b,c,d,e,f,g,h,rfl⟩
 obtain⟨y0,y1,y2,y3,y4,y5,y6,y7,rfl⟩:∃a b c d e f g h,xs=[a,b,c,d,e,f,g,h]:=by
  have hxl:xs.length=8:=hxl
  match xs,hxl with
  | [a,b,c,d,e,f,g,h],_=>exact⟨a,b,c,d,e,f,g,h,rfl⟩
 have h0:=hf 0 _ rfl
 have h1:=hf 1 _ rfl
 have h2:=hf 2 _ rfl
 have h3:=hf 3 _ rfl
 have h4:=hf 4 _ rfl
 have h5:=hf 5 _ rfl
 have h6:=hf 6 _ rfl
 have h7:=hf 7 _ rfl
 clear hf
 simp only[Rows.uptoBulk,Rows.uptoBulkAll,List.map_cons,List.map_nil] at hz ⊢
 have p0:=lC y0.1
 have p1:=lC y1.1
 have p2:=lC y2.1
 have p3:=lC y3.1
 have p4:=lC y4.1
 have p5:=lC y5.1
 have p6:=lC y6.1
 have p7:=lC y7.1
 refine⟨by omega,?_⟩
 obtain⟨k,e0,i0⟩:=wY (show DataW.trod enc Tryz.prog W 0 (fun _=>true) true n 3 [c0]=some y0 from h0)
 obtain⟨a,e1,i1⟩:=wY (show DataW.trod enc Tryz.prog W 0 (fun _=>true) true n 3 [c1]=some y1 from h1)
 obtain⟨c,e2,i2⟩:=wY (show DataW.trod enc Tryz.prog W 0 (fun _=>true) true n 3 [c2]=some y2 from h2)
 obtain⟨s,e3,i3⟩:=AA (show DataW.trod enc Tryz.prog W 0 (fun _=>true) true n 9 [c3]=some y3 from h3) (by omega)
 obtain⟨b,e4,i4⟩:=AA (show DataW.trod enc Tryz.prog W 0 (fun _=>true) true n 9 [c4]=some y4 from h4) (by omega)
 obtain⟨vl,l,e5,r5,n5,l5⟩:=YA (show DataW.trod enc Tryz.prog W 0 (fun _=>true) true n 50 [c5]=some y5 from h5) (by omega)
 obtain⟨vm,m,e6,r6,n6,l6⟩:=YB (show DataW.trod enc Tryz.prog W 0 (fun _=>true) true n 26 [c6]=some y6 from h6) (by omega)
 obtain⟨vd,d,e7,r7,n7,l7⟩:=YC (show DataW.trod enc Tryz.prog W 0 (fun _=>true) true n 65 [c7]=some y7 from h7) (by omega)
 cases e0;cases e1;cases e2;cases e3;cases e4;cases e5;cases e6;cases e7
 exact⟨⟨k,a,c,s,b,c5,c6,c7,l,m,d⟩,rfl,i0,i1,i2,i3,i4,r5,n5,l5,r6,n6,l6,r7,n7,l7⟩
theorem open_ops{base:Nat}{v:Value}{d:DataW H}{p:List MemPlace}(hv:Value.okWide Tryz.prog W .any base 22 v)(h:DataW.Trod enc Tryz.prog W 0 (fun _=>true) true 22 v d p)(hz:Rows.uptoBulk d≤1048576):
 ∃l:List xK,Rd W 8 v l.length (Cb l)∧(∀o∈l,uZ W o)∧l.length≤200000:=by
 obtain⟨a0,len,cap,rfl⟩:=okWide_slice Tryz.underlying22 hv
 obtain⟨fuel,hf⟩:=h
 obtain⟨v',l,h1,h2,h3,h4⟩:=open_list Tryz.underlying22 Qk (by omega) opC (fun a=>rfl) (uZ W) 9 (fun fuel cs x h hw=>YD h hw) (show DataW.trod enc Tryz.prog W 0 (fun _=>true) true fuel 22 [.slice a0 len cap]=some (d,p) from hf) hz
 cases h1
 exact⟨l,h2,h3,by omega⟩
end
end Go.Proofs.YtdkogijdfgfpeaaGreatDoor
namespace Go.Proofs.YtdkogijdfgfpeaaGreatDoor
open Go Go.RowKit
theorem qQ:∀(l:List (List UInt8)),dB l=true↔∀j (h:j+1<l.length),Op.bytesLess (l[j]'(by omega)) l[j+1]=true
 | []=>by simp[dB]
 | [a]=>by simp[dB]
 |a :: b :: r=>by
  rw[dB,Bool.and_eq_true,qQ (b :: r)]
  constructor
  ·rintro ⟨h1,h2⟩ j hj
   cases j with
   |zero=>exact h1
   |succ j=>exact h2 j (by simpa using hj)
  ·intro h
   exact⟨h 0 (by simp),fun j hj=>h (j+1) (by simpa using hj)⟩
def iL(w:World)(F:Nat→Prop)(s:Nat)(R:Int×aH)(ed:Ending)(w':World):Prop:=
 ed=.returned (.int .i64 R.1)∧(∃F',aU w' F' s R.2∧∀k,F' k→F k∨(w.heap.size≤k∧k<w'.heap.size))∧Keeps F w w'
theorem iL.same{w w':World}{F:Nat→Prop}{s:Nat}{L:aH}{z:Int}(h:aU w F s L)(k:Keeps Non w w'):iL w F s (z,L) (.returned (.int .i64 z)) w':=
 ⟨rfl,⟨F,h.non k,fun _ h=>.inl h⟩,k.mono fun _ _ h=>h.elim⟩
theorem KL{l:List Node}(h:bH l= -1):l.length≤30:=by
 unfold bH at h
 split at h
 ·cases h
 ·have:=wV l 0 [] h (by omega)
  omega
theorem Ve{L:aH}{name:List UInt8}{l:List Node}{refs:List (List UInt8)}(h:fF name=false):qN L name l refs=(11,L):=by unfold qN;rw[if_pos h]
theorem Vf{L:aH}{name:List UInt8}{l:List Node}{refs:List (List UInt8)}(h:fF name=true)(h2:0≤bH l):qN L name l refs=(1,L):=by unfold qN;rw[if_neg (by simp[h]),if_pos h2]
theorem Vg{L:aH}{name:List UInt8}{l:List Node}{refs:List (List UInt8)}(h:fF name=true)(h2:bH l= -1)(h3:dB refs=false):qN L name l refs=(7,L):=by
 unfold qN;rw[if_neg (by simp[h]),if_neg (by omega),if_pos h3]
theorem Vh{L:aH}{name:List UInt8}{l:List Node}{refs:List (List UInt8)}(h:fF name=true)(h2:bH l= -1)(h3:dB refs=true){r:List UInt8}(hr:r∈refs)(h4:r≠name)(h5:aA L r=none):qN L name l refs=(13,L):=by
 unfold qN;rw[if_neg (by simp[h]),if_neg (by omega),if_neg (by simp[h3]),if_pos]
 rw[List.any_eq_true]
 exact⟨r,hr,by simp[h4,h5]⟩
structure Vj(L:aH)(name:List UInt8)(l:List Node)(refs:List (List UInt8)):Prop where
 path:fF name=true
 wrong:bH l= -1
 rise:dB refs=true
 has:∀r∈refs,r=name∨(aA L r).isSome=true
theorem vT{L:aH}{name:List UInt8}{l:List Node}{refs:List (List UInt8)}(h:Vj L name l refs):qN L name l refs=match aA L name with
  |some e=>if jM e ⟨name,l,refs⟩ then (0,L) else (12,L)
  |none=>if L.length=10 then (14,L) else (0,ou L ⟨name,l,refs⟩):=by
 have h4:¬(refs.any fun r=>r !=name&&(aA L r).isNone)=true:=by
  rw[List.any_eq_true]
  rintro ⟨r,hr,h2⟩
  rcases h.has r hr with h3|h3
  ·simp[h3] at h2
  ·cases hf:aA L r with
   |none=>rw[hf] at h3;cases h3
   |some e=>simp[hf] at h2
 unfold qN
 rw[if_neg (by simp[h.path]),if_neg (by have:=h.wrong;omega),if_neg (by simp[h.rise]),if_neg h4]
 cases aA L name <;> rfl
theorem MapAt.nodup{w:World}{b:Nat}{m:bY}(h:MapAt w b m):(m.map Prod.fst).Nodup:=by
 obtain⟨es,c,-,hm⟩:=h
 exact hm.keys
theorem MapAt.eH{w:World}{b:Nat}{m:bY}(h:MapAt w b m){k:Nat}{c:Array Value}{T:TypeId}{fr:Nat×Nat}(hk:w.heap[k]? =some (.cells c T fr)):k≠b:=by
 obtain⟨es,cl,hb,hm⟩:=h
 intro e
 rw[e,hb] at hk
 cases hk
theorem aU.put{F:Nat→Prop}{w W w9:World}{s mb p:Nat}{L:aH}{m:bY}{e:dI}(hs:aU w F s L)(hT:kV≤w.heap.size)(hkW:Keeps Non w W)
 (hM:F mb∧aS W s #[.map (some mb)] TS∧MapAt W mb m∧m.length=L.length∧(∀x∈m,∃e∈L,e.path=x.1)∧∀e∈L,∃p,getM m e.path=some (pv p)∧lq W F p e)
 (hE:lq W (fun k=>w.heap.size≤k∧k<p+1) p e) (hsz:W.heap.size=p+1) (hfn:aA L e.path=none) (YE:MapAt w9 mb (jJ m e.path (pv p))) (hk9:Keeps (One mb) W w9) (hs9:w9.heap.size=W.heap.size)
 (hok:bK (ou L e)) (hfit:mM e):aU w9 (fun k=>F k∨(w.heap.size≤k∧k<w9.heap.size)) s (ou L e):=by
 obtain⟨h1,h2,h3,h4,h5,h6⟩:=hM
 have hgn:getM m e.path=none:=getM_none.2 fun x hx e2=>by
  obtain⟨e',he',hex⟩:=h5 x hx
  exact gB.1 hfn e' he' (hex.trans e2)
 have hp:jJ m e.path (pv p)=m++[(e.path,pv p)]:=by rw[jJ,hgn];rfl
 rw[hp] at YE
 have hnd:=YE.nodup
 have hne:∀b c T fr,W.heap[b]? =some (.cells c T fr)→¬One mb b:=fun b c T fr hc e2=>h3.eH hc e2
 refine⟨fun k hk=>?_,fun k hk=>?_,.inl hs.own,hok,fun x hx=>?_,mb,m++[(e.path,pv p)],.inl h1,h2.keeps hk9 (hne s _ _ _ h2),YE,?_,fun x hx=>?_,fun x hx=>?_⟩
 ·rcases hk with hk|hk
  ·exact hs.top k hk
  ·omega
 ·rcases hk with hk|hk
  ·exact Nat.lt_of_lt_of_le (hs.lt k hk) (Nat.le_trans hkW.size (Nat.le_of_eq hs9.symm))
  ·exact hk.2
 ·rcases gG.1 hx with rfl|hx
  ·exact hfit
  ·exact hs.fit x hx
 ·rw[ni,List.length_append,h4];rfl
 ·rcases List.mem_append.1 hx with hx|hx
  ·obtain⟨e',he',hex⟩:=h5 x hx
   exact⟨e',gG.2 (.inr he'),hex⟩
  ·obtain rfl:=List.mem_singleton.1 hx
   exact⟨e,gG.2 (.inl rfl),rfl⟩
 ·rcases gG.1 hx with rfl|hx
  ·exact⟨p,(jE hnd).2 (List.mem_append.2 (.inr (List.mem_singleton.2 rfl))),(hE.keeps hk9 fun b c T fr _ hc=>hne b c T fr hc).wide fun k hk=>.inr ⟨hk.1,by omega⟩⟩
  ·obtain⟨q,hq,hqe⟩:=h6 x hx
   exact⟨q,(jE hnd).2 (List.mem_append.2 (.inl ((jE h3.nodup).1 hq))),(hqe.keeps hk9 fun b c T fr _ hc=>hne b c T fr hc).wide fun k hk=>.inl hk⟩
theorem Ov{F:Nat→Prop}{s:Nat}{L:aH}(w:World)(h:aU w F s L)(hT:Tabs w)(name:ByteArray)(hn:name.size≤1099511627776)(l:List Node)(v:Value)(hv:Rd w 3 v l.length (ak l))(hfit:jr l)(hpl:(aJ l).length≤70368744177664)
 (refs:List (List UInt8)) (vr:Value) (hr:Rd w 1 vr refs.length (bf refs)) (hrl:refs.length≤1099511627776) (hrs:∀r∈refs,r.length≤1099511627776):
 Calls Tryz.prog 24 #[pv s,.string name,v,vr] w (iL w F s (qN L name.data.toList l refs)):=by
 have HS:=Lib.hid h
 have HT:=Lib.hid hT
 have HV:=Lib.hid hv
 have HF:=Lib.hid hfit
 have HR:=Lib.hid hr
 have HRS:=Lib.hid hrs
 have Uc:=Lib.hid hpl
 obtain⟨va,vc,rfl,hc1,hc2⟩:=hr.shape
 unfold maxLen at hc2
 clear h hT hv hfit hr hrs hpl
 unfold pv
 go_enter Tryz.func24,Tryz.ntmps24
 go_wp2_with fail
 refine(Kt _ _).mono ?_
 rintro e w1 ⟨rfl,hk1⟩
 have iy:=Lib.hid hk1
 clear hk1
 cases hp:fF name.data.toList with
 |false=>
  have HP:=Lib.hid hp
  clear hp
  go_wp2_with fail
  go_ret
  rw[Ve HP.out]
  exact iL.same HS.out iy.out
 |true=>
 have HP:=Lib.hid hp
 clear hp
 go_wp2_with fail
 refine(QV v l _ (HV.out.non iy.out) (HT.out.keeps iy.out) (fun n hn=>?_)).mono ?_
 ·have:=HF.out n hn
  omega
 rintro e w2 ⟨rfl,hk2⟩
 have iP:=Lib.hid (iy.out.trans hk2 fun _ h=>h.elim)
 clear hk2 iy
 by_cases hw:0≤bH l
 ·have HW:=Lib.hid hw
  have hd:decide (0≤bH l)=true:=decide_eq_true hw
  clear hw
  go_wp2_with fail
  go_ret
  rw[Vf HP.out HW.out]
  exact iL.same HS.out iP.out
 have hd:decide (0≤bH l)=false:=decide_eq_false hw
 have hw1:bH l= -1:=by
  rcases vO l with e|e
  ·exact e
  ·exact absurd e hw
 have HW:=Lib.hid hw1
 have acA:=KL hw1
 clear hw hw1
 go_wp2_with fail
 refine(JY v l _ (HV.out.non iP.out) (by omega) HF.out Uc.out).mono ?_
 rintro e w3 ⟨rfl,hk3⟩
 have kL:=Lib.hid (iP.out.trans hk3 fun _ h=>h.elim)
 clear hk3 iP
 go_wp2_with fail
 refine(DC l v _ (HV.out.non kL.out) (by omega)).mono ?_
 rintro e w4 ⟨vt,rfl,hvt,hk4⟩
 obtain⟨ta,tc,rfl,-,-⟩:=hvt.shape
 have HVT:=Lib.hid hvt
 have HB3:Hid (w.heap.size≤w3.heap.size):=kL.out.size
 have wS:=Lib.hid (kL.out.trans hk4 fun _ h=>h.elim)
 clear hk4 kL hvt
 go_wp2_with fail
 refine(Dz refs _ _ (HR.out.non wS.out) hrl).mono ?_
 rintro e w5 ⟨vs,rfl,hvs,hk5⟩
 obtain⟨sa,sc,rfl,-,-⟩:=hvs.shape
 have HVS:=Lib.hid hvs
 have HB4:Hid (w.heap.size≤w4.heap.size):=wS.out.size
 have HS5:Hid (w4.heap.size≤w5.heap.size):=hk5.size
 have acM:=Lib.hid (HVT.out.rd.non hk5)
 have ng:=Lib.hid (wS.out.trans hk5 fun _ h=>h.elim)
 clear hk5 wS hvs
 go_upto_region 6 with(fail)
 have hent:lq (w5.alloc (.cells #[.string ⟨(aJ l).toArray⟩,.slice ta l.length tc,.slice sa refs.length sc] TE)) (fun k=>w.heap.size≤k∧k<w5.heap.size+1) w5.heap.size ⟨name.data.toList,l,refs⟩:=by
  have alf:=ng.out.size
  have hb3:=HB3.out
  have hb4:=HB4.out
  refine⟨⟨by omega,by omega⟩,_,_,aS.new _ _ _,acM.out.non ((Keeps.refl _ _).alloc _),HVS.out.rd.non ((Keeps.refl _ _).alloc _),fun b hb=>?_,fun b hb=>?_⟩
  ·exact⟨Nat.le_trans hb3 (HVT.out.own b hb).1,Nat.lt_succ_of_lt (Nat.lt_of_lt_of_le (HVT.out.own b hb).2 (HS5.out))⟩
  ·exact⟨Nat.le_trans hb4 (HVS.out.own b hb).1,Nat.lt_succ_of_lt (HVS.out.own b hb).2⟩
 have hkW:Keeps Non w (w5.alloc (.cells #[.string ⟨(aJ l).toArray⟩,.slice ta l.length tc,.slice sa refs.length sc] TE)):=ng.out.alloc _
 have hszW:(w5.alloc (.cells #[.string ⟨(aJ l).toArray⟩,.slice ta l.length tc,.slice sa refs.length sc] TE)).heap.size=w5.heap.size+1:=by simp
 obtain⟨W,hW⟩:∃W,W=w5.alloc (.cells #[.string ⟨(aJ l).toArray⟩,.slice ta l.length tc,.slice sa refs.length sc] TE):=⟨_,rfl⟩
 obtain⟨p,hpd⟩:∃p,p=w5.heap.size:=⟨_,rfl⟩
 simp only[TE] at hW hent hkW hszW
 rw[←hW] at hent hkW hszW
 rw[←hW]
 rw[←hpd] at hent hszW
 rw[←hpd]
 have HE:=Lib.hid hent
 have pO:=Lib.hid hkW
 have P9:=Lib.hid hszW
 clear hW hpd hent hkW hszW HVT acM HVS HB3 HB4 ng HS5
 have hst:=HS.out.non pO.out
 obtain⟨mb,m,g1,g2,g3,g4,g5,g6⟩:=hst.map
 have HM:Hid (F mb∧aS W s #[.map (some mb)] TS∧MapAt W mb m∧m.length=L.length∧(∀x∈m,∃e∈L,e.path=x.1)∧∀e∈L,∃p,getM m e.path=some (pv p)∧lq W F p e):=⟨g1,g2,g3,g4,g5,g6⟩
 have cs:=g2.cell 0
 simp only[List.getElem?_toArray,List.getElem?_cons_zero] at cs
 clear hst g1 g2 g3 g4 g5 g6
 have HRW:=Lib.hid (HR.out.non pO.out)
 go_wp2_with fail
 go_loopg [33] refs.length (fun gk iv wr=>∃k:Nat,gk=refs.length-k∧k≤refs.length∧iv=.int .i64 k∧W=wr∧Hid (∀j (h:j+1<k) (h2:k≤refs.length),Op.bytesLess (refs[j]'(by omega)) (refs[j+1]'(by omega))=true))
 case atStart=>exact⟨0,rfl,Nat.zero_le _,rfl,rfl,fun j h _=>by omega⟩
 case round=>
  obtain⟨k,rfl,hk,rfl,rfl,HA⟩:=hrel
  by_cases hlt:k<refs.length
  ·obtain⟨b,off,cp,hsh,-,-,-,hbl,hc,-⟩:=HRW.out.pos (by omega)
   cases hsh
   have d0:W.cell? ⟨b,off+k,none⟩=some (sv refs[k]):=(hc k (by omega)).trans (dJ refs k hlt)
   rcases Nat.eq_zero_or_pos k with h0|h0
   ·subst h0
    rw[Nat.add_zero] at d0
    unfold sv at d0
    clear hc
    go_wp2_with fail
    go_roundg (refs.length-1)
    case measure=>omega
    case rel=>exact⟨1,rfl,by omega,by go_num,rfl,fun j h _=>by omega⟩
   ·obtain⟨j,rfl⟩:∃j,k=j+1:=⟨k-1,by omega⟩
    have hj:j<refs.length:=by omega
    have d1:W.cell? ⟨b,off+j,none⟩=some (sv refs[j]):=(hc j (by omega)).trans (dJ refs j hj)
    have HX:Hid (refs[j]? =some refs[j]∧refs[j+1]? =some refs[j+1]):=⟨List.getElem?_eq_getElem hj,List.getElem?_eq_getElem hlt⟩
    unfold sv at d0 d1
    clear hc
    generalize refs[j]=x at *
    generalize refs[j+1]=y at *
    have e1:((j+1:Nat):Int)-1=(j:Int):=by omega
    cases hl:Op.bytesLess x y with
    |true=>
     have hl2:(!Op.bytesLess x y)=false:=by rw[hl];rfl
     have HL:=Lib.hid hl
     clear hl
     go_wp2_with fail
     go_roundg (refs.length-(j+1+1))
     case measure=>omega
     case rel=>
      refine⟨j+1+1,rfl,by omega,by go_num,rfl,fun i hi hi2=>?_⟩
      by_cases hij:i=j
      ·subst hij
       have hh:=HL.out
       have h1:=HX.out.1
       have h2:=HX.out.2
       rw[List.getElem?_eq_getElem hj,Option.some.injEq] at h1
       rw[List.getElem?_eq_getElem hlt,Option.some.injEq] at h2
       rw[h1,h2]
       exact hh
      ·exact HA.out i (by omega) (by omega)
    |false=>
     have hl2:(!Op.bytesLess x y)=true:=by rw[hl];rfl
     have HL:=Lib.hid hl
     clear hl
     go_wp2_with fail
     go_ret
     have hrf:dB refs=false:=by
      cases hb:dB refs with
      |false=>rfl
      |true=>
       have h3:=(qQ refs).1 hb j hlt
       have h1:=HX.out.1
       have h2:=HX.out.2
       rw[List.getElem?_eq_getElem hj,Option.some.injEq] at h1
       rw[List.getElem?_eq_getElem hlt,Option.some.injEq] at h2
       rw[h1,h2,HL.out] at h3
       cases h3
     rw[Vg HP.out HW.out hrf]
     exact iL.same HS.out pO.out
  ·have hk2:k=refs.length:=by omega
   subst hk2
   have hrise:Hid (dB refs=true):=(qQ refs).2 fun j hj=>HA.out j hj (Nat.le_refl _)
   clear HA
   go_wp2_with fail
   have DL:Hid (Tryz.prog.underlying 82=some (.map 9 81)):=Tryz.underlying82
   go_loopg [52] refs.length (fun gk iv wr=>∃k:Nat,gk=refs.length-k∧k≤refs.length∧iv=.int .i64 k∧W=wr∧Hid (∀r∈refs.take k,r=name.data.toList∨(aA L r).isSome=true))
   case atStart=>exact⟨0,rfl,Nat.zero_le _,rfl,rfl,by show ∀r∈_,_;simp⟩
   case round=>
    obtain⟨k,rfl,hk,rfl,rfl,HB⟩:=hrel
    by_cases hlt:k<refs.length
    ·obtain⟨b,off,cp,hsh,-,-,-,hbl,hc,-⟩:=HRW.out.pos (by omega)
     cases hsh
     have d0:W.cell? ⟨b,off+k,none⟩=some (sv refs[k]):=(hc k (by omega)).trans (dJ refs k hlt)
     have HX:Hid (refs[k]? =some refs[k]∧refs[k].length≤1099511627776∧refs[k]∈refs):=⟨List.getElem?_eq_getElem hlt,HRS.out _ (List.getElem_mem _),List.getElem_mem _⟩
     have d0':=d0
     clear hc
     generalize refs[k]=x at *
     unfold sv at d0
     rcases aU.look HM.out.2.2.1 HM.out.2.2.2.2.1 HM.out.2.2.2.2.2 x with⟨hf,hg⟩|⟨e,q,hf,hel,oz,hg,hE⟩
     ·have hval:(getM m x).getD (.pointer none)=.pointer none:=by rw[hg];rfl
      have wX:=Lib.hid hf
      clear hf hg
      have iG:=Lib.hid hval
      clear hval
      by_cases hx:x=name.data.toList
      ·have hb:(!x==name.toList)=false:=by rw[ByteArray.toList_eq,hx];simp
       have Ud:=Lib.hid hx
       clear hx
       go_wp2_with (first|(at_lookup;refine eG _ rfl _ _ _ rfl _ _ DL.out Tryz.underlying9 (.pointer none) (Tryz.zeroValue81 _) mb m rfl HM.out.2.2.1 x rfl HX.out.2.1 ?_;rw[iG.out]))
       go_roundg (refs.length-(k+1))
       case measure=>omega
       case rel=>
        refine⟨k+1,rfl,by omega,by go_num,rfl,?_⟩
        show ∀r∈_,_
        intro r hr
        rw[List.take_add_one,HX.out.1,List.mem_append] at hr
        rcases hr with hr|hr
        ·exact HB.out r hr
        ·simp only[Option.toList_some,List.mem_singleton] at hr
         rw[hr]
         exact .inl Ud.out
      ·have hb:(!x==name.toList)=true:=by rw[ByteArray.toList_eq];simpa using hx
       have Ud:Hid (¬x=name.data.toList):=hx
       clear hx
       go_wp2_with (first|(at_lookup;refine eG _ rfl _ _ _ rfl _ _ DL.out Tryz.underlying9 (.pointer none) (Tryz.zeroValue81 _) mb m rfl HM.out.2.2.1 x rfl HX.out.2.1 ?_;rw[iG.out]))
       go_ret
       rw[Vh HP.out HW.out hrise.out HX.out.2.2 Ud.out wX.out]
       exact iL.same HS.out pO.out
     ·have hval:(getM m x).getD (.pointer none)=.pointer (some ⟨q,0,none⟩):=by rw[hg];rfl
      have wX:Hid ((aA L x).isSome=true):=by show _=_;rw[hf];rfl
      clear hf hg hE hel oz
      have iG:=Lib.hid hval
      clear hval
      go_wp2_with (first|(at_lookup;refine eG _ rfl _ _ _ rfl _ _ DL.out Tryz.underlying9 (.pointer none) (Tryz.zeroValue81 _) mb m rfl HM.out.2.2.1 x rfl HX.out.2.1 ?_;rw[iG.out]))
      go_roundg (refs.length-(k+1))
      case measure=>omega
      case rel=>
       refine⟨k+1,rfl,by omega,by go_num,rfl,?_⟩
       show ∀r∈_,_
       intro r hr
       rw[List.take_add_one,HX.out.1,List.mem_append] at hr
       rcases hr with hr|hr
       ·exact HB.out r hr
       ·simp only[Option.toList_some,List.mem_singleton] at hr
        rw[hr]
        exact .inr wX.out
    ·have hk2:k=refs.length:=by omega
     subst hk2
     have hnl:name.data.toList.length≤1099511627776:=by rw[dlen];exact hn
     have vg:Hid (Vj L name.data.toList l refs):=⟨HP.out,HW.out,hrise.out,fun r hr=>HB.out r (by rw[List.take_length];exact hr)⟩
     clear HB hrise
     rcases aU.look HM.out.2.2.1 HM.out.2.2.2.2.1 HM.out.2.2.2.2.2 name.data.toList with⟨hf,hg⟩|⟨e,q,hf,hel,oz,hg,hE⟩
     ·have hval:(getM m name.data.toList).getD (.pointer none)=.pointer none:=by rw[hg];rfl
      have wX:=Lib.hid hf
      have HG:=Lib.hid hg
      clear hf hg
      have iG:=Lib.hid hval
      clear hval
      have acN:∀ty,Sem.run Tryz.prog (Builtin.len_ #[82] ty #[.map (some mb)]) W=.ok (.int .i64 L.length) W:=fun ty=>by rw[←HM.out.2.2.2.1];exact run_len_map DL.out HM.out.2.2.1 ty
      by_cases h10:L.length=10
      ·have hb:((L.length:Int)==10)=true:=by rw[h10];rfl
       have Gi:=Lib.hid h10
       clear h10
       go_wp2_with (first|(at_lookup;refine eG _ rfl _ _ _ rfl _ _ DL.out Tryz.underlying9 (.pointer none) (Tryz.zeroValue81 _) mb m rfl HM.out.2.2.1 name.data.toList rfl hnl ?_;rw[iG.out]))
       go_ret
       have hins:qN L name.data.toList l refs=(14,L):=by rw[vT vg.out,wX.out,if_pos Gi.out]
       rw[hins]
       exact iL.same HS.out pO.out
      ·have hb:((L.length:Int)==10)=false:=by rw[beq_eq_false_iff_ne];omega
       have Gi:Hid (¬L.length=10):=h10
       clear h10
       have HPV:Hid (pv p=.pointer (some ⟨p,0,none⟩)):=rfl
       go_wp2_with (first|(at_lookup;refine eG _ rfl _ _ _ rfl _ _ DL.out Tryz.underlying9 (.pointer none) (Tryz.zeroValue81 _) mb m rfl HM.out.2.2.1 name.data.toList rfl hnl ?_;rw[iG.out])|(at_mapUpdate;refine Aq _ rfl _ _ _ _ rfl _ _ DL.out Tryz.underlying9 mb m rfl HM.out.2.2.1 name.data.toList rfl hnl (pv p) rfl ?_;intro w9 YE hk9 hs9))
       go_ret
       have hins:qN L name.data.toList l refs=(0,ou L ⟨name.data.toList,l,refs⟩):=by rw[vT vg.out,wX.out,if_neg Gi.out]
       rw[hins]
       have hok:bK (ou L ⟨name.data.toList,l,refs⟩):=by
        have:=Yr HS.out.ok name.data.toList l refs
        rw[hins] at this
        exact this
       refine⟨rfl,⟨_,HS.out.put HT.out.top pO.out HM.out HE.out P9.out wX.out YE hk9 hs9 hok ⟨HF.out,Uc.out,hrl,HRS.out⟩,fun k hk=>hk⟩,?_⟩
       refine(pO.out.mono fun _ _ h=>h.elim).trans hk9 fun k hk=>?_
       cases hk
       exact .inl HM.out.1
     ·have hval:(getM m name.data.toList).getD (.pointer none)=.pointer (some ⟨q,0,none⟩):=by rw[hg];rfl
      have wX:=Lib.hid hf
      have HEN:=Lib.hid hE
      have pW:=Lib.hid (GR W hE HE.out)
      clear hf hg hE hel oz
      have iG:=Lib.hid hval
      clear hval
      unfold pv at pW
      have HQN:Hid (sv name.data.toList=.string name):=by show _=_;simp[sv]
      go_wp2_with (first|(at_lookup;refine eG _ rfl _ _ _ rfl _ _ DL.out Tryz.underlying9 (.pointer none) (Tryz.zeroValue81 _) mb m rfl HM.out.2.2.1 name.data.toList rfl hnl ?_;rw[iG.out]))
      refine pW.out.mono ?_
      rintro ed w9 ⟨rfl,nz,rfl⟩
      cases hse:jM e ⟨name.data.toList,l,refs⟩ with
      |true=>
       have Ue:=Lib.hid hse
       clear hse
       go_wp2_with fail
       go_ret
       have hins:qN L name.data.toList l refs=(0,L):=by rw[vT vg.out,wX.out];simp[Ue.out]
       rw[hins]
       exact iL.same HS.out (pO.out.drewN _)
      |false=>
       have Ue:=Lib.hid hse
       clear hse
       go_wp2_with fail
       go_ret
       have hins:qN L name.data.toList l refs=(12,L):=by rw[vT vg.out,wX.out];simp[Ue.out]
       rw[hins]
       exact iL.same HS.out (pO.out.drewN _)
end Go.Proofs.YtdkogijdfgfpeaaGreatDoor

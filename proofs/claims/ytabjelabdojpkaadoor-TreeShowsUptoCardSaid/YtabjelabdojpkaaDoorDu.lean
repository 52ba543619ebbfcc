/-
  What a reading of an argument gives where its bulk is bounded: data that are not more. And the frame of the proof of a law in its second form.
-/
import Derived.Test.YtabjelabdojpkaaDoorDlaw
import Derived.Test.YtabjelabdojpkaaDoorRows
import Derived.JoinedCond
import Derived.Deep.CondSized
namespace Go.Dm
open Go Go.Eng Go.RowKit Go.ChangeShapes Go.WideShapes Go.Deep Go.ChangeAt Go.Proofs.YtabjelabdojpkaaDoor.Rows
mutual
def nG:GV→Nat
 | .sl _ rows=>1+nRows rows
 | _=>1
def nRow:List GV→Nat
 | []=>0
 | g :: l=>nG g+nRow l
def nRows:List (List GV)→Nat
 | []=>0
 | r :: l=>nRow r+nRows l
end
theorem sum_le {H:Type}:∀ (gs:List GV) (ys:List (DataW H × List MemPlace)),gs.length=ys.length→(∀ (i:Nat) (g:GV) y,gs[i]?=some g→ys[i]?=some y→nG g≤uptoBulk y.1)→nRow gs≤uptoBulkAll (ys.map Prod.fst)
 | [],_,_,_=>by simp[nRow]
 | _ :: _,[],h,_=>by simp at h
 | g :: gs,y :: ys,h,hk=>by
  have h0:=hk 0 g y rfl rfl
  have h1:=sum_le gs ys (by simpa using h) (fun i g y hg hy=>hk (i+1) g y (by simpa using hg) (by simpa using hy))
  simp only[nRow,List.map_cons,uptoBulkAll]
  omega
section
variable {H:Type} {enc:TypeId × Value→H} {P:Program} {w:World}
theorem rep_of_trodB {S:List TypeId} (hS:plainSet P S=true):∀ (fuel:Nat) (t:TypeId) (cs:List Value) (x:DataW H × List MemPlace),t∈S→(∀ n∈x.1.weights P t,n≤reachBytes)→DataW.trod enc P w 0 (fun _=>true) true fuel t cs=some x →
  ∃ gs,TypedR P fuel t gs∧RepL (fun k=>k < w.heap.size) w gs cs∧nRow gs≤uptoBulk x.1:=by
 intro fuel
 induction fuel with
 | zero=>intro t cs x _ _ h;simp[DataW.trod] at h
 | succ n ih =>
  intro t cs x ht hwt h
  have hp:=List.all_eq_true.1 hS t ht
  unfold plainAt at hp
  unfold TypedR
  split at hp
  ·rename_i k hu
   simp only[Bool.and_eq_true,decide_eq_true_eq] at hp
   obtain ⟨rfl,_⟩:=hp
   obtain ⟨m,rfl,hx,hwf⟩:=DataW.trod_int hu h
   rw[hu]
   have hb:-9223372036854775808≤m∧m≤9223372036854775807:=by simpa [Lit.wf,IntKind.min,IntKind.max,IntKind.signed,IntKind.bits] using hwf
   exact ⟨[.int m],⟨.int m,rfl,by simp only[TypedG,hu];exact ⟨m,rfl,hb⟩⟩,RepL.one (by simp[RepV]),by rw[hx];simp[nRow,nG,uptoBulk]⟩
  ·rename_i hu
   obtain ⟨s,rfl,hx,_⟩:=DataW.trod_string hu h
   have hs:s.data.toList.length≤reachBytes:=hwt _ (by rw[hx];simp[DataW.weights])
   rw[hu]
   exact ⟨[.str s.data.toList],⟨_,rfl,by simp only[TypedG,hu];exact ⟨_,rfl,hs⟩⟩,RepL.one (by simp[RepV]),by rw[hx];simp[nRow,nG,uptoBulk]⟩
  ·rename_i hu
   obtain ⟨b,rfl,hx⟩:=DataW.trod_bool hu h
   rw[hu]
   exact ⟨[.bool b],⟨_,rfl,by simp only[TypedG,hu];exact ⟨_,rfl⟩⟩,RepL.one (by simp[RepV]),by rw[hx];simp[nRow,nG,uptoBulk]⟩
  ·rename_i e hu
   simp only[Bool.and_eq_true,Bool.not_eq_true',beq_iff_eq,beq_eq_false_iff_ne] at hp
   obtain ⟨⟨heS,_⟩,hne⟩:=hp
   have heS:e∈S:=by simpa using heS
   rw[hu]
   rcases DataW.trod_slice hu h with ⟨rfl,hx⟩ | ⟨a,len,cap,elems,rest,n',hfu,rfl,rfl,_,hlc,hcm,hel,hcell,_,_⟩
   ·refine ⟨[.sl (P.cellsOf e) []],⟨_,rfl,?_⟩,RepL.one ?_,by rw[hx];simp[nRow,nG,nRows,uptoBulk]⟩
    ·simp only[TypedG,hu]
     exact ⟨[],rfl,by simp,fun r hr=>by simp at hr⟩
    ·simp only[RepV]
     exact ⟨none,0,rfl,Nat.le_refl _,fun h=>by simp at h,fun _=>rfl⟩
   ·injection hfu with hfu
    subst hfu
    simp only[DataW.weights,hu,List.mem_cons,List.mem_append,forall_eq_or_imp,List.length_map] at hwt
    have key:∀ i (hi:i < elems.length),i < len→∃ gs cs',TypedR P n e gs∧RepL (fun k=>k < w.heap.size) w gs cs'∧cs'.length=P.cellsOf e∧nRow gs≤uptoBulk elems[i].1∧∀ j v,cs'[j]?=some v→w.cell? ((a.add (i*P.cellsOf e)).add j)=some v:=by
     intro i hie hi
     have hc:=hcell i hi
     rw[List.getElem?_eq_getElem (by omega)] at hc
     obtain ⟨cs',hcs,htr⟩:=Option.bind_eq_some_iff.1 hc
     obtain ⟨_,hl,hat⟩:=World.cells?_some hcs
     obtain ⟨gs,hg1,hg2,hg3⟩:=ih e cs' _ heS (fun n hn=>hwt.2 n (.inl (mem_weightsAll (List.mem_map.2 ⟨_,List.getElem_mem _,rfl⟩) hn))) htr
     refine ⟨gs,cs',hg1,hg2,hl,hg3,fun j v hj=>?_⟩
     have hjl:j < P.cellsOf e:=by rw[← hl];exact (List.getElem?_eq_some_iff.1 hj).1
     rw[hat j hjl,hj]
    have build:∀ (m k:Nat),k+m≤len→∃ xs:List (List GV),xs.length=m∧(∀ r∈xs,TypedR P n e r)∧RepAll (fun k=>k < w.heap.size) w (P.cellsOf e) a k xs∧nRows xs≤uptoBulkAll (((elems.drop k).take m).map Prod.fst):=by
     intro m
     induction m with
     | zero=>intro k _;exact ⟨[],rfl,fun r hr=>by simp at hr,by simp[RepAll],by simp[nRows]⟩
     | succ m ihm =>
      intro k hk
      obtain ⟨xs,h1,h2,h3,h4⟩:=ihm (k+1) (by omega)
      obtain ⟨gs,cs',g1,g2,g3,g5,g4⟩:=key k (by omega) (by omega)
      refine ⟨gs :: xs,by simp[h1],fun r hr=>?_,?_,?_⟩
      rotate_right
      ·rw[List.drop_eq_getElem_cons (show k < elems.length by omega),List.take_succ_cons,List.map_cons]
       simp only[nRows,uptoBulkAll]
       omega
      ·rcases List.mem_cons.1 hr with rfl | hr
       ·exact g1
       ·exact h2 r hr
      ·simp only[RepAll]
       have rowl:∀ (gs:List GV) (cs:List Value) (i:Nat),RepL (fun k=>k < w.heap.size) w gs cs→(∀ j v,cs[j]?=some v→w.cell? ((a.add (k*P.cellsOf e)).add (i+j))=some v)→gs.length=cs.length∧RepRow (fun k=>k < w.heap.size) w a (k*P.cellsOf e+i) gs:=by
        intro gs
        induction gs with
        | nil=>intro cs i hr _;cases cs with | nil=>exact ⟨rfl,by simp[RepRow]⟩ | cons c cs=>exact hr.elim
        | cons g gs ihg =>
         intro cs i hr hc
         cases cs with
         | nil=>exact hr.elim
         | cons c cs =>
          obtain ⟨hl,hrow⟩:=ihg cs (i+1) hr.2 (fun j v hj=>by
           have:=hc (j+1) v (by simpa using hj)
           rwa [show i+(j+1)=i+1+j from by omega] at this)
          refine ⟨by simp[hl],?_⟩
          simp only[RepRow]
          refine ⟨⟨c,?_,hr.1⟩,by rwa [show k*P.cellsOf e+i+1=k*P.cellsOf e+(i+1) from by omega]⟩
          have:=hc 0 c rfl
          rwa [add_add,Nat.add_zero] at this
       obtain ⟨hl,hrow⟩:=rowl gs cs' 0 g2 (fun j v hj=>by rw[Nat.zero_add];exact g4 j v hj)
       exact ⟨⟨by omega,by simpa using hrow⟩,h3⟩
    obtain ⟨xs,hx1,hx2,hx3,hx4⟩:=build len 0 (by omega)
    rw[List.drop_zero,← hel,List.take_length] at hx4
    replace hx4:nRows xs≤uptoBulkAll (elems.map fun x=>x.1):=hx4
    refine ⟨[.sl (P.cellsOf e) xs],⟨_,rfl,?_⟩,RepL.one ?_,by simp only[nRow,nG,uptoBulk];omega⟩
    ·simp only[TypedG,hu]
     exact ⟨xs,rfl,by rw[hx1,← hel];exact Nat.le_trans (Nat.mul_le_mul_right _ (Nat.le_add_right _ _)) hwt.1,fun r hr=>by have:=hx2 r hr;unfold TypedR at this;exact this⟩
    ·simp only[RepV]
     refine ⟨some a,cap,by rw[hx1],by omega,fun h0=>⟨a,rfl,?_,hx3⟩,fun e=>(by cases e)⟩
     obtain ⟨gs,cs',_,_,hl,_,hat⟩:=key 0 (by omega) (by omega)
     have h1:cs'[0]?=some (cs'[0]'(by omega)):=List.getElem?_eq_getElem (by omega)
     have:=World.block_lt_of_cell? w _ (hat 0 _ h1)
     rwa [add_block,add_block] at this
  ·rename_i fs hu
   simp only[Bool.and_eq_true,beq_iff_eq] at hp
   obtain ⟨⟨hone,hsz⟩,hall⟩:=hp
   obtain ⟨ys,n',hfu,rfl,hlen,hyl,hf⟩:=DataW.trod_struct hu h
   injection hfu with hfu
   subst hfu
   simp only[DataW.weights,hu] at hwt
   rw[hu]
   have hcl:cs.length=fs.size:=hlen.trans hsz
   obtain ⟨gs,h1,h2,h3⟩:=repL_of (V:=fun k=>k < w.heap.size) (w:=w) cs (fun i v g=>(∀ fd,fs[i]?=some fd→TypedG P (n+1) fd.type g)∧∀ y,ys[i]?=some y→nG g≤uptoBulk y.1) (by
    intro i v hi
    have hil:i < fs.size:=by rw[← hcl];exact (List.getElem?_eq_some_iff.1 hi).1
    obtain ⟨fd,hfd⟩:∃ fd,fs[i]?=some fd:=⟨fs[i],Array.getElem?_eq_getElem hil⟩
    obtain ⟨ho,hk⟩:=hone_of hone i fd hfd
    have ht':=hf i fd hfd
    rw[ho,hk] at ht'
    have h1v:(cs.drop i).take 1=[v]:=by
     obtain ⟨hil',he⟩:=List.getElem?_eq_some_iff.1 hi
     rw[List.drop_eq_getElem_cons hil',he]
     rfl
    rw[h1v,List.getElem?_eq_getElem (by omega)] at ht'
    have hfm:=List.all_eq_true.1 hall fd (by rw[Array.getElem?_eq_some_iff] at hfd;obtain ⟨hh,he⟩:=hfd;rw[← he];simp)
    simp only[Bool.and_eq_true,Bool.not_eq_true'] at hfm
    have hns:∀ fs',P.underlying fd.type≠some (.struct fs'):=fun fs' e=>by rw[e] at hfm;exact absurd hfm.2 (by simp)
    obtain ⟨gs,hg,hr,hb⟩:=ih fd.type [v] _ (by simpa using hfm.1) (fun n hn=>hwt n (mem_weightsEach (i:=i) (t:=fd.type) (by rw[List.getElem?_map,Array.getElem?_toList,hfd];rfl) (by rw[List.getElem?_map,List.getElem?_eq_getElem (by omega)];rfl) hn)) ht'
    unfold TypedR at hg
    split at hg
    ·rename_i fs' hu';exact absurd hu' (hns fs')
    ·obtain ⟨g,rfl,hg⟩:=hg
     refine ⟨g,⟨fun fd' hfd'=>?_,fun y hy=>?_⟩,hr.1⟩
     ·rw[hfd] at hfd'
      injection hfd' with e
      subst e
      exact typedG_succ _ _ _ hg
     ·rw[List.getElem?_eq_getElem (by omega)] at hy
      injection hy with hy
      rw[← hy]
      simpa [nRow] using hb)
   exact ⟨gs,⟨by rw[h2,hcl],fun i fd g hi hg=>by
    have hil:i < cs.length:=by rw[hcl];exact (Array.getElem?_eq_some_iff.1 hi).1
    exact (h3 i _ g (List.getElem?_eq_getElem hil) hg).1 fd hi⟩,h1,by
    have:=sum_le gs ys (by omega) (fun i g y hg hy=>by
     have hil:i < cs.length:=by rw[← h2];exact (List.getElem?_eq_some_iff.1 hg).1
     exact (h3 i _ g (List.getElem?_eq_getElem hil) hg).2 y hy)
    replace this:nRow gs≤uptoBulkAll (ys.map fun x=>x.1):=this
    simp only[uptoBulk]
    omega⟩
  ·cases hp

def ArgOkB (P:Program) (w:World) (b:Nat) (t:TypeId) (v:Value):Prop :=
 ∃ f gs,TypedR P f t gs∧RepL (fun k=>k < w.heap.size) w gs v.cells.toList∧(match P.underlying t with | some (.struct _)=>∃ cs,v=.agg cs | _=>v.cells=#[v])∧nRow gs≤b
theorem ArgOkB.ok {b:Nat} {t:TypeId} {v:Value} (h:ArgOkB P w b t v):ArgOk P w t v:=by
 obtain ⟨f,gs,h1,h2,h3,_⟩:=h
 exact ⟨f,gs,h1,h2,h3⟩
theorem ArgOkB.slice {b:Nat} {t:TypeId} {v:Value} {e:TypeId} (hu:P.underlying t=some (.slice e)) (h:ArgOkB P w b t v):∃ f g,TypedG P f t g∧RepV (fun k=>k < w.heap.size) w g v∧nG g≤b:=by
 obtain ⟨f,gs,h1,h2,h3,h4⟩:=h
 simp only[TypedR,hu] at h1 h3
 obtain ⟨g,rfl,hg⟩:=h1
 rw[h3] at h2
 exact ⟨f,g,hg,h2.1,by simpa [nRow] using h4⟩
theorem argOkB_of {W:World} {S:List TypeId} (hS:plainSet P S=true) {t:TypeId} (ht:t∈S) {v:Value} {d:DataW H} {ps:List MemPlace} {base:Nat}
  (hv:Value.okWide P W .any base t v) (hw:∀ n∈d.weights P t,n≤reachBytes) (h:DataW.Trod enc P W 0 (fun _=>true) true t v d ps):ArgOkB P W (uptoBulk d) t v:=by
 obtain ⟨fuel,hf⟩:=h
 obtain ⟨gs,h1,h2,h3⟩:=rep_of_trodB hS fuel t _ _ ht hw hf
 refine ⟨fuel,gs,h1,h2,?_,h3⟩
 have hp:=List.all_eq_true.1 hS t ht
 unfold plainAt at hp
 split at hp
 ·rename_i k hu;rw[hu];obtain ⟨n,rfl⟩:=okWide_int hu hv;rfl
 ·rename_i hu;rw[hu];obtain ⟨s,rfl⟩:=okWide_string hu hv;rfl
 ·rename_i hu;rw[hu];obtain ⟨s,rfl⟩:=okWide_bool hu hv;rfl
 ·rename_i e hu;rw[hu];obtain ⟨a,l,c,rfl⟩:=okWide_slice hu hv;rfl
 ·rename_i fs hu;rw[hu];obtain ⟨cs,rfl,_⟩:=okWide_struct hu hv;exact ⟨cs,rfl⟩
 ·cases hp
inductive ArgsOkB (P:Program) (w:World) (b:Nat):List TypeId→List Value→Prop
 | nil:ArgsOkB P w b [] []
 | cons {t:TypeId} {v:Value} {ts:List TypeId} {vs:List Value}:ArgOkB P w b t v→ArgsOkB P w b ts vs→ArgsOkB P w b (t :: ts) (v :: vs)
theorem ArgsOkB.inv {b:Nat} {t:TypeId} {ts:List TypeId} {vs:List Value} (h:ArgsOkB P w b (t :: ts) vs):∃ v vs',vs=v :: vs'∧ArgOkB P w b t v∧ArgsOkB P w b ts vs':=by
 cases h with
 | cons h0 r=>exact ⟨_,_,rfl,h0,r⟩
theorem ArgsOkB.inv0 {b:Nat} {vs:List Value} (h:ArgsOkB P w b [] vs):vs=[]:=by cases h;rfl
theorem argsOkB_of {W:World} {S:List TypeId} (hS:plainSet P S=true) {base b:Nat}:∀ (ts:List TypeId) (vs:List Value) (ds:List (DataW H)) (ps:List MemPlace),(∀ t∈ts,t∈S)→(∀ (j:Nat) t v,ts[j]?=some t→vs[j]?=some v→Value.okWide P W .any base t v) →
  (∀ n∈DataW.weightsEach P ts ds,n≤reachBytes)→uptoBulkAll ds≤b→DataW.TrodAll enc P W 0 (fun _=>true) true ts vs ds ps→ArgsOkB P W b ts vs
 | [],vs,ds,ps,_,_,_,_,h=>by
  obtain ⟨rfl,_,_⟩:=trodAll_nil h
  exact .nil
 | t :: ts,vs,ds,ps,hS',hv,hw,hb,h=>by
  obtain ⟨v,vs',d,ds',p,q,rfl,rfl,rfl,h0,r0⟩:=trodAll_cons h
  simp only[DataW.weightsEach,List.mem_append] at hw
  simp only[uptoBulkAll] at hb
  obtain ⟨f,gs,h1,h2,h3,h4⟩:=argOkB_of hS (hS' t List.mem_cons_self) (hv 0 t v rfl rfl) (fun n hn=>hw n (.inl hn)) h0
  exact .cons ⟨f,gs,h1,h2,h3,by omega⟩ (argsOkB_of hS ts vs' ds' q (fun t ht=>hS' t (List.mem_cons_of_mem _ ht)) (fun j t v hj hv'=>hv (j+1) t v (by simpa using hj) (by simpa using hv')) (fun n hn=>hw n (.inr hn)) (by omega) r0)
theorem law_contractU {S:List TypeId} (hS:plainSet P S=true) (hl:laidOutB P=true) {f:FuncId} {fn:Func} {s:ChangeSpec} (hvars:s.vars=[]) (hfn:∀ ds:List (DataW H),ds.length=fn.params.size→(s.fn H (ds++[]))={ results:=[.lit (.bool true)],args:=ds })
  {tb:TypeId} (hres:fn.resultTypes=#[tb]) (htb:P.underlying tb=some .bool) (hps:∀ t∈fn.params.toList,t∈S∧P.readableRec t=true∧t < P.types.size)
  (walk:∀ (W:World) (args:List Value),ArgsOkB P W 1048576 fn.params.toList args→Calls P f args.toArray W (Yes W))
  (W:World) (base:Nat) (args:Array Value) (ds gs:List (DataW H)) (before:List MemPlace)
  (hval:∀ (j:Nat) t v,fn.params[j]?=some t→args[j]?=some v→Value.okWide P W .any base t v) (hwt:(DataW.weightsEach P (fn.params.toList++s.plain.varTypes P) (ds++gs)).all (·≤reachBytes)=true) (hk:uptoSmall H (ds++gs)=true) (hW:DataW.Whole enc P fn.params.toList s.vars false W args.toList ds gs before) :
  Calls P f args W fun e W'=>∃ v,e=.returned v∧s.post enc P fn false true false false W args v W':=by
 have hW':=hW
 have hlt:∀ x∈before,x.block < W.heap.size:=fun x hx=>hW.lt x hx
 obtain ⟨p,q,hA,hV,rfl,hfz,hnd⟩:=hW
 rw[hvars] at hV
 obtain ⟨rfl,rfl⟩:=trodVars_none hV
 have hlen:ds.length=fn.params.size:=by
  have key:∀ (ts:List TypeId) (vs:List Value) (ds:List (DataW H)) (ps:List MemPlace),DataW.TrodAll enc P W 0 (fun _=>true) true ts vs ds ps→ds.length=ts.length:=by
   intro ts
   induction ts with
   | nil=>intro vs ds ps h;obtain ⟨rfl,rfl,rfl⟩:=trodAll_nil h;rfl
   | cons t ts ih=>intro vs ds ps h;obtain ⟨v,vs',d,ds',p,q,rfl,rfl,rfl,h0,r0⟩:=trodAll_cons h;simp[ih _ _ _ r0]
  rw[key _ _ _ _ hA]
  simp
 have hb:uptoBulkAll ds≤1048576:=by
  have h:uptoBulkAll (ds++[])≤1048576:=of_decide_eq_true hk
  rwa [List.append_nil] at h
 have hok:=argsOkB_of hS fn.params.toList args.toList ds p (fun t ht=>(hps t ht).1) (fun j t v hj hv=>hval j t v (by simpa using hj) (by simpa using hv)) (fun n hn=>by
  have:=List.all_eq_true.1 hwt n (weightsEach_app (by simpa using hlen) hn)
  simpa using this) hb hA
 have hw:=walk W args.toList hok
 rw[Array.toArray_toList] at hw
 refine hw.mono fun e W' ⟨he,hfr⟩=>?_
 subst he
 have hb:=hfr.below
 refine ⟨_,rfl,ds,[],p++[],[],p,[],hW',?_,?_,?_,hb.frame _,fun h=>by cases h⟩
 ·rw[hfn ds hlen,hres]
  exact trodAll_cons_mk (shut_bool htb true) trodAll_mk0
 ·rw[hfn ds hlen]
  exact trodAll_stays hl hb _ _ _ _ (fun t ht=>(hps t ht).2) (fun x hx=>hlt x (by simpa using hx)) hA
 ·rw[hfn ds hlen,hvars]
  rfl
end
end Go.Dm

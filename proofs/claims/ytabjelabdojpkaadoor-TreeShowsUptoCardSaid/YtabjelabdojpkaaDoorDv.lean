/-
  The frame of the proof of a law in its second form, where the row lists variables.
-/
import Derived.Test.YtabjelabdojpkaaDoorDu
namespace Go.Dm
open Go Go.Eng Go.RowKit Go.ChangeShapes Go.WideShapes Go.Deep Go.ChangeAt Go.Proofs.YtabjelabdojpkaaDoor.Rows
section
variable {H:Type} {enc:TypeId × Value→H} {P:Program} {w:World}
theorem law_contractUW {S:List TypeId} (hS:plainSet P S=true) (hl:laidOutB P=true) {f:FuncId} {fn:Func} {s:ChangeSpec} (hvars:s.vars=[]) (hfn:∀ ds:List (DataW H),ds.length=fn.params.size→(s.fn H (ds++[]))={ results:=[.lit (.bool true)],args:=ds })
  {tb:TypeId} (hres:fn.resultTypes=#[tb]) (htb:P.underlying tb=some .bool) (hps:∀ t∈fn.params.toList,t∈S∧P.readableRec t=true∧t < P.types.size)
  (W:World) (walk:∀ (args:List Value),ArgsOkB P W 1048576 fn.params.toList args→Calls P f args.toArray W (Yes W)) (base:Nat) (args:Array Value) (ds gs:List (DataW H)) (before:List MemPlace)
  (hval:∀ (j:Nat) t v,fn.params[j]?=some t→args[j]?=some v→Value.okWide P W .any base t v) (hwt:(DataW.weightsEach P (fn.params.toList++s.plain.varTypes P) (ds++gs)).all (·≤reachBytes)=true) (hk:uptoSmall H (ds++gs)=true) (hW:DataW.Whole enc P fn.params.toList s.vars false W args.toList ds gs before) :
  Calls P f args W fun e W'=>∃ v,e=.returned v∧s.post enc P fn false true false false W args v W':=by
 have hW':=hW
 have hlt:∀ x∈before,x.block < W.heap.size:=fun x hx=>hW.lt x hx
 obtain ⟨p,q,hA,hV,rfl,hfz,hnd⟩:=hW
 rw[hvars] at hV
 obtain ⟨rfl,rfl⟩:=trodVars_none hV
 have hlen:ds.length=fn.params.size:=by
  have key:∀ (ts:List TypeId) (vs:List Value) (ds:List (DataW H)) (ps:List MemPlace),DataW.TrodAll enc P W 0 (fun _=>true) true ts vs ds ps→ds.length=ts.length:=by
   intro ts
   induction ts with
   | nil=>intro vs ds ps h;obtain ⟨rfl,rfl,rfl⟩:=trodAll_nil h;rfl
   | cons t ts ih=>intro vs ds ps h;obtain ⟨v,vs',d,ds',p,q,rfl,rfl,rfl,h0,r0⟩:=trodAll_cons h;simp[ih _ _ _ r0]
  rw[key _ _ _ _ hA]
  simp
 have hb:uptoBulkAll ds≤1048576:=by
  have h:uptoBulkAll (ds++[])≤1048576:=of_decide_eq_true hk
  rwa [List.append_nil] at h
 have hok:=argsOkB_of hS fn.params.toList args.toList ds p (fun t ht=>(hps t ht).1) (fun j t v hj hv=>hval j t v (by simpa using hj) (by simpa using hv)) (fun n hn=>by
  have:=List.all_eq_true.1 hwt n (weightsEach_app (by simpa using hlen) hn)
  simpa using this) hb hA
 have hw:=walk args.toList hok
 rw[Array.toArray_toList] at hw
 refine hw.mono fun e W' ⟨he,hfr⟩=>?_
 subst he
 have hb:=hfr.below
 refine ⟨_,rfl,ds,[],p++[],[],p,[],hW',?_,?_,?_,hb.frame _,fun h=>by cases h⟩
 ·rw[hfn ds hlen,hres]
  exact trodAll_cons_mk (shut_bool htb true) trodAll_mk0
 ·rw[hfn ds hlen]
  exact trodAll_stays hl hb _ _ _ _ (fun t ht=>(hps t ht).2) (fun x hx=>hlt x (by simpa using hx)) hA
 ·rw[hfn ds hlen,hvars]
  rfl
end
end Go.Dm

/-
  The frame of a card's proof: what a listed table of structs of numbers gives a walk; a law's contract out of its walk in one world; and the closing of a card. It holds of every program.
-/
import Derived.Test.YtjkplhnbiejefaaDoorDlaw
import Derived.Lib.LaidTab
import Derived.Deep.DeepHandedRow
import Derived.SevenTiedAt
namespace Go.Dm
open Go Go.Eng Go.RowKit Go.ChangeShapes Go.WideShapes Go.Deep Go.ChangeAt

section
variable {H:Type} {enc:TypeId × Value→H} {P:Program} {w:World}
def tab2 {H:Type} (rows:List (List Int)):DataW H:=.agg (rows.map fun r=>.agg (r.map fun z=>.lit (.int .i64 z)))
theorem row3_of {base:Nat} {sp:Nat→Bool} {held:Bool} {fuel:Nat} {e:TypeId} {fs:Array Field} {cs:List Value} {r:List Int} {p:List MemPlace}
  (he:P.underlying e=some (.struct fs)) (hf:∀ (j:Nat) (f:Field),fs[j]?=some f→f.offset=j∧P.underlying f.type=some (.int .i64)∧P.cellsOf f.type=1)
  (h:DataW.trod enc P w base sp held fuel e cs=some (.agg (r.map fun z=>.lit (.int .i64 z)),p)):∀ (j:Nat) (z:Int),r[j]?=some z→cs[j]?=some (.int .i64 z):=by
 obtain ⟨xs,n,rfl,hx,hl,hxl,hxf⟩:=DataW.trod_struct he h
 intro j z hz
 injection hx with hx _
 injection hx with hx
 have hr:(xs.map (·.1))[j]?=some (DataW.lit (.int .i64 z):DataW H):=by rw[← hx];simp[hz]
 obtain ⟨x,hxj,hx1⟩:∃ x,xs[j]?=some x∧x.1=.lit (.int .i64 z):=by
  simp only[List.getElem?_map,Option.map_eq_some_iff] at hr
  exact hr
 have hjl:j < fs.size:=by rw[← hxl];exact (List.getElem?_eq_some_iff.1 hxj).1
 have hfj:fs[j]?=some fs[j]:=Array.getElem?_eq_getElem hjl
 obtain ⟨h1,h2,h3⟩:=hf j _ hfj
 have ht:=hxf j _ hfj
 rw[h1,h3,hxj] at ht
 obtain ⟨z',hc,hz',_⟩:=DataW.trod_int h2 ht
 have hzz:z'=z:=by
  rw[hz'] at hx1
  injection hx1 with hx1
  injection hx1
 subst hzz
 have:=congrArg (·[0]?) hc
 simpa [List.getElem?_take,List.getElem?_drop] using this
theorem cells_of_tab2 {base:Nat} {sp:Nat→Bool} {held:Bool} {fuel:Nat} {t e:TypeId} {n:Nat} {fs:Array Field} {cs:List Value} {rows:List (List Int)} {p:List MemPlace}
  (ht:P.underlying t=some (.array n e)) (he:P.underlying e=some (.struct fs)) (hce:P.cellsOf e=3) (hf:∀ (j:Nat) (f:Field),fs[j]?=some f→f.offset=j∧P.underlying f.type=some (.int .i64)∧P.cellsOf f.type=1)
  (h:DataW.trod enc P w base sp held fuel t cs=some (tab2 rows,p)):∀ (i:Nat) (r:List Int),rows[i]?=some r→∀ (j:Nat) (z:Int),r[j]?=some z→j < 3→cs[i*3+j]?=some (.int .i64 z):=by
 cases fuel with
 | zero=>simp[DataW.trod] at h
 | succ fuel =>
  simp only[DataW.trod,ht,hce] at h
  split at h
  ·obtain ⟨xs,hm,hx⟩:=Option.map_eq_some_iff.1 h
   have hxs:xs.map (·.1)=rows.map fun r=>(DataW.agg (r.map fun z=>.lit (.int .i64 z)):DataW H):=by
    have:=congrArg Prod.fst hx
    simpa [tab2] using this
   have hxl:xs.length=n:=by simpa using Lib.mapM_length hm
   intro i r hi j z hj hj3
   have h2:(xs.map (·.1))[i]?=some (DataW.agg (r.map fun z=>.lit (.int .i64 z)):DataW H):=by rw[hxs];simp[hi]
   obtain ⟨x,hxi,hx1⟩:∃ x,xs[i]?=some x∧x.1=.agg (r.map fun z=>.lit (.int .i64 z)):=by
    simp only[List.getElem?_map,Option.map_eq_some_iff] at h2
    exact h2
   have hil:i < n:=by rw[← hxl];exact (List.getElem?_eq_some_iff.1 hxi).1
   obtain ⟨b,hb,hfb⟩:=Lib.mapM_at hm i i (by simp[hil])
   rw[hxi] at hb
   injection hb with hb
   subst hb
   obtain ⟨x1,x2⟩:=x
   simp only at hx1
   subst hx1
   have:=row3_of he hf hfb j z hj
   rw[List.getElem?_take_of_lt hj3,List.getElem?_drop] at this
   exact this
  ·cases h
theorem glOk_of_head {name:String} {rows:List (List Int)} {rest:List (String × DataW Unit)} {g:Nat} {t e:TypeId} {n:Nat} {fs:Array Field}
  (hg:P.globalNamed name=some g) (hty:(P.globals[g]?).map (·.type)=some t) (ht:P.underlying t=some (.array n e)) (he:P.underlying e=some (.struct fs)) (hce:P.cellsOf e=3)
  (hf:∀ (j:Nat) (f:Field),fs[j]?=some f→f.offset=j∧P.underlying f.type=some (.int .i64)∧P.cellsOf f.type=1) (h3:∀ r∈rows,r.length=3) (hne:rows≠[])
  (h:laidMet P ((name,tab2 rows) :: rest) w):GlOk [(g,rows.flatten.map .int)] (fun k=>k < w.heap.size) w:=by
 obtain ⟨ps,⟨g',t',cs,fuel,p,q,hg',ht',hvar,hd,_,_⟩,_⟩:=h
 obtain rfl:=Option.some.inj (hg.symm.trans hg')
 obtain rfl:=Option.some.inj (hty.symm.trans ht')
 have hc:=cells_of_tab2 ht he hce hf hd
 have flat:∀ (rows:List (List Int)) (k:Nat) (z:Int),(∀ r∈rows,r.length=3)→rows.flatten[k]?=some z→∃ r,rows[k / 3]?=some r∧r[k % 3]?=some z:=by
  intro rows
  induction rows with
  | nil=>intro k z _ hk;simp at hk
  | cons r rows ih =>
   intro k z hr hk
   have hr3:=hr r List.mem_cons_self
   simp only[List.flatten_cons] at hk
   by_cases hl:k < 3
   ·rw[List.getElem?_append_left (by omega)] at hk
    exact ⟨r,by rw[show k / 3=0 from by omega];rfl,by rw[show k % 3=k from by omega];exact hk⟩
   ·rw[List.getElem?_append_right (by omega),hr3] at hk
    obtain ⟨r',h1,h2⟩:=ih (k - 3) z (fun r hr'=>hr r (List.mem_cons_of_mem _ hr')) hk
    exact ⟨r',by rw[show k / 3=(k - 3) / 3+1 from by omega];simpa using h1,by rw[show k % 3=(k - 3) % 3 from by omega];exact h2⟩
 have cell:∀ (k:Nat) (z:Int),rows.flatten[k]?=some z→w.cell? ⟨g,k,none⟩=some (.int .i64 z):=by
  intro k z hk
  obtain ⟨r,h1,h2⟩:=flat rows k z h3 hk
  have:=hc (k / 3) r h1 (k % 3) z h2 (Nat.mod_lt _ (by decide))
  rw[show k / 3*3+k % 3=k from by omega] at this
  rw[World.var?_cell hg hvar k]
  simpa using this
 have row:∀ (l:List Int) (i:Nat),(∀ (k:Nat) (z:Int),l[k]?=some z→rows.flatten[i+k]?=some z)→RepRow (fun k=>k < w.heap.size) w ⟨g,0,none⟩ i (l.map .int):=by
  intro l
  induction l with
  | nil=>intro i _;simp[RepRow]
  | cons z l ih =>
   intro i hl
   simp only[List.map_cons,RepRow]
   refine ⟨⟨.int .i64 z,?_,by simp only[RepV]⟩,ih (i+1) (fun k z' hk=>by rw[show i+1+k=i+(k+1) from by omega];exact hl (k+1) z' (by simpa using hk))⟩
   rw[add_mk]
   simpa using cell i z (by simpa using hl 0 z rfl)
 intro q hq
 simp only[List.mem_singleton] at hq
 subst hq
 refine ⟨?_,row _ 0 (fun k z hk=>by simpa using hk),by cases rows.flatten<;>trivial⟩
 cases hrows:rows with
 | nil=>exact absurd hrows hne
 | cons r rs =>
  have hr3:=h3 r (by rw[hrows];exact List.mem_cons_self)
  obtain ⟨z,hz⟩:∃ z,r[0]?=some z:=⟨r[0]'(by omega),List.getElem?_eq_getElem _⟩
  have:=cell 0 z (by rw[hrows];simp only[List.flatten_cons];rw[List.getElem?_append_left (by omega)];exact hz)
  exact World.block_lt_of_cell? w _ this
theorem law_of_ctG {G:Gl} {f:FuncId} {ds:List D} {vals:List Value} (hG:GlOk G (fun k=>k < w.heap.size) w) (h:CT P G f ds (Is (.g (.bool true)))) (hr:RepDL [] (fun _=>undef) (fun k=>k < w.heap.size) w ds vals):Calls P f ⟨vals⟩ w (Yes w) :=
 (h w _ vals (fun _ h=>h) hG hr).mono fun e w' he=>by
  cases e with
  | returned v =>
   obtain ⟨d,h',β',V',hq,hrel,hd⟩:=he
   injection hq with e1 e2
   subst e1
   simp only[RepD,RepV] at hd
   exact ⟨by rw[hd],hrel.fr⟩
  | panicked ch=>obtain ⟨d,t,u,β',V',_,hq,_⟩:=he;cases hq
  | outgrown=>exact he.elim
end
section
variable {H:Type} {enc:TypeId × Value→H} {P:Program}
theorem law_contractW {S:List TypeId} (hS:plainSet P S=true) (hl:laidOutB P=true) {f:FuncId} {fn:Func} {s:ChangeSpec} (hvars:s.vars=[]) (hfn:∀ ds:List (DataW H),ds.length=fn.params.size→(s.fn H (ds++[]))={ results:=[.lit (.bool true)],args:=ds })
  {tb:TypeId} (hres:fn.resultTypes=#[tb]) (htb:P.underlying tb=some .bool) (hps:∀ t∈fn.params.toList,t∈S∧P.readableRec t=true∧t < P.types.size)
  (W:World) (walk:∀ args:List Value,ArgsOk P W fn.params.toList args→Calls P f args.toArray W (Yes W)) (base:Nat) (args:Array Value) (ds gs:List (DataW H)) (before:List MemPlace)
  (hval:∀ (j:Nat) t v,fn.params[j]?=some t→args[j]?=some v→Value.okWide P W .any base t v) (hwt:(DataW.weightsEach P (fn.params.toList++s.plain.varTypes P) (ds++gs)).all (·≤reachBytes)=true) (hW:DataW.Whole enc P fn.params.toList s.vars false W args.toList ds gs before) :
  Calls P f args W fun e W'=>∃ v,e=.returned v∧s.post enc P fn false true false false W args v W':=by
 have hW':=hW
 have hlt:∀ x∈before,x.block < W.heap.size:=fun x hx=>hW.lt x hx
 obtain ⟨p,q,hA,hV,rfl,hfz,hnd⟩:=hW
 rw[hvars] at hV
 obtain ⟨rfl,rfl⟩:=trodVars_none hV
 have hlen:ds.length=fn.params.size:=by
  have key:∀ (ts:List TypeId) (vs:List Value) (ds:List (DataW H)) (ps:List MemPlace),DataW.TrodAll enc P W 0 (fun _=>true) true ts vs ds ps→ds.length=ts.length:=by
   intro ts
   induction ts with
   | nil=>intro vs ds ps h;obtain ⟨rfl,rfl,rfl⟩:=trodAll_nil h;rfl
   | cons t ts ih=>intro vs ds ps h;obtain ⟨v,vs',d,ds',p,q,rfl,rfl,rfl,h0,r0⟩:=trodAll_cons h;simp[ih _ _ _ r0]
  rw[key _ _ _ _ hA]
  simp
 have hok:=argsOk_of hS fn.params.toList args.toList ds p (fun t ht=>(hps t ht).1) (fun j t v hj hv=>hval j t v (by simpa using hj) (by simpa using hv)) (fun n hn=>by
  have:=List.all_eq_true.1 hwt n (weightsEach_app (by simpa using hlen) hn)
  simpa using this) hA
 have hw:=walk args.toList hok
 rw[Array.toArray_toList] at hw
 refine hw.mono fun e W' ⟨he,hfr⟩=>?_
 subst he
 have hb:=hfr.below
 refine ⟨_,rfl,ds,[],p++[],[],p,[],hW',?_,?_,?_,hb.frame _,fun h=>by cases h⟩
 ·rw[hfn ds hlen,hres]
  exact trodAll_cons_mk (shut_bool htb true) trodAll_mk0
 ·rw[hfn ds hlen]
  exact trodAll_stays hl hb _ _ _ _ (fun t ht=>(hps t ht).2) (fun x hx=>hlt x (by simpa using hx)) hA
 ·rw[hfn ds hlen,hvars]
  rfl
end
end Go.Dm

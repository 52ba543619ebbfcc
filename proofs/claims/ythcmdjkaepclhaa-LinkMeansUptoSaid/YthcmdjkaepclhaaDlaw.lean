import Derived.Test.YthcmdjkaepclhaaDa4
import Derived.Test.YthcmdjkaepclhaaTab
import Derived.OpenShut
import Derived.Handed
namespace Go.Dm
open Go Go.Eng Go.RowKit Go.ChangeShapes Go.WideShapes Go.Deep Go.ChangeAt
def ArgOk (P:Program) (w:World) (t:TypeId) (v:Value):Prop :=
 ∃ f gs,TypedR P f t gs/\RepL (fun k=>k < w.heap.size) w gs v.cells.toList/\(match P.underlying t with | some (.struct _)=>∃ cs,v=.agg cs | _=>v.cells=#[v])
section
variable {H:Type} {enc:TypeId × Value->H} {P:Program} {W W':World}
inductive ArgsOk (P:Program) (w:World):List TypeId->List Value->Prop
 | nil:ArgsOk P w [] []
 | cons {t:TypeId} {v:Value} {ts:List TypeId} {vs:List Value}:ArgOk P w t v->ArgsOk P w ts vs->ArgsOk P w (t :: ts) (v :: vs)
theorem trodAll_stays (hl:laidOutB P=true) (hb:Below W.heap.size W W'):∀ (ts:List TypeId) (vs:List Value) (ds:List (DataW H)) (ps:List MemPlace),(∀ t∈ts,P.readableRec t=true/\t < P.types.size)->(∀ x∈ps,x.block < W.heap.size) ->
  DataW.TrodAll enc P W 0 (fun _=>true) true ts vs ds ps->DataW.TrodAll enc P W' 0 (fun b=>decide (b < W.heap.size)) true ts vs ds ps
 | [],vs,ds,ps,_,_,h=>by
  obtain ⟨rfl,rfl,rfl⟩:=trodAll_nil h
  exact trodAll_mk0
 | t :: ts,vs,ds,ps,hr,hlt,h=>by
  obtain ⟨v,vs',d,ds',p,q,rfl,rfl,rfl,h0,r0⟩:=trodAll_cons h
  exact trodAll_cons_mk (Below.trod hl (hr t List.mem_cons_self).1 (hr t List.mem_cons_self).2 h0 hb (fun x hx=>hlt x (List.mem_append.2 (.inl hx))))
   (trodAll_stays hl hb ts vs' ds' q (fun t ht=>hr t (List.mem_cons_of_mem _ ht)) (fun x hx=>hlt x (List.mem_append.2 (.inr hx))) r0)
def Yes (w:World):Ending->World->Prop:=fun e w'=>e=.returned (.bool true)/\Fr (fun _=>False) w w'
theorem weightsEach_app {us:List TypeId}:∀ {ts:List TypeId} {ds gs:List (DataW H)},ds.length=ts.length->∀ {n:Nat},n∈DataW.weightsEach P ts ds->n∈DataW.weightsEach P (ts++us) (ds++gs)
 | [],[],_,_,n,h=>by simp[DataW.weightsEach] at h
 | [],_ :: _,_,hl,_,_=>by simp at hl
 | _ :: _,[],_,hl,_,_=>by simp at hl
 | t :: ts,d :: ds,gs,hl,n,h=>by
  simp only[List.cons_append,DataW.weightsEach,List.mem_append] at h ⊢
  rcases h with h | h
  ·exact .inl h
  ·exact .inr (weightsEach_app (by simpa using hl) h)
end
def parsOk (P:Program) (S:List TypeId) (ts:List TypeId):Bool:=ts.all fun t=>S.contains t && P.readableRec t && Nat.blt t P.types.size
theorem parsOk_ok {P:Program} {S ts:List TypeId} (h:parsOk P S ts=true):∀ t∈ts,t∈S/\P.readableRec t=true/\t < P.types.size:=by
 intro t ht
 have:=List.all_eq_true.1 h t ht
 simp only[Bool.and_eq_true] at this
 exact ⟨by simpa using this.1.1,this.1.2,Nat.le_of_ble_eq_true this.2⟩
section
variable {P:Program} {w:World} {t:TypeId} {v:Value}
theorem ArgOk.int (hu:P.underlying t=some (.int .i64)) (h:ArgOk P w t v):∃ n,v=.int .i64 n/\-9223372036854775808<=n/\n<=9223372036854775807:=by
 obtain ⟨f,gs,h1,h2,h3⟩:=h
 simp only[TypedR,hu] at h1 h3
 obtain ⟨g,rfl,hg⟩:=h1
 cases f with
 | zero=>simp only[TypedG] at hg
 | succ f =>
  simp only[TypedG,hu] at hg
  obtain ⟨n,rfl,hb⟩:=hg
  rw[h3] at h2
  have h4:=h2.1
  simp only[RepV] at h4
  exact ⟨n,h4,hb⟩
theorem ArgOk.strR (hu:P.underlying t=some .string) (h:ArgOk P w t v):∃ l,v=.string ⟨⟨l⟩⟩/\l.length<=reachBytes:=by
 obtain ⟨f,gs,h1,h2,h3⟩:=h
 simp only[TypedR,hu] at h1 h3
 obtain ⟨g,rfl,hg⟩:=h1
 cases f with
 | zero=>simp only[TypedG] at hg
 | succ f =>
  simp only[TypedG,hu] at hg
  obtain ⟨n,rfl,hb⟩:=hg
  rw[h3] at h2
  have h4:=h2.1
  simp only[RepV] at h4
  exact ⟨n,h4,hb⟩
theorem reach_max {n:Nat} (h:n<=reachBytes):n<=maxLen:=Nat.le_trans h (by decide)
theorem ArgOk.str (hu:P.underlying t=some .string) (h:ArgOk P w t v):∃ l,v=.string ⟨⟨l⟩⟩/\l.length<=maxLen:=by
 obtain ⟨l,h1,h2⟩:=h.strR hu
 exact ⟨l,h1,reach_max h2⟩
theorem ArgOk.slice {e:TypeId} (hu:P.underlying t=some (.slice e)) (h:ArgOk P w t v):∃ f g,TypedG P f t g/\RepV (fun k=>k < w.heap.size) w g v:=by
 obtain ⟨f,gs,h1,h2,h3⟩:=h
 simp only[TypedR,hu] at h1 h3
 obtain ⟨g,rfl,hg⟩:=h1
 rw[h3] at h2
 exact ⟨f,g,hg,h2.1⟩
theorem law_of_ct {f:FuncId} {ds:List D} {vals:List Value} (h:CT P [] f ds (Is (.g (.bool true)))) (hr:RepDL [] (fun _=>undef) (fun k=>k < w.heap.size) w ds vals):Calls P f ⟨vals⟩ w (Yes w) :=
 (h w _ vals (fun _ h=>h) (fun p hp=>by simp at hp) hr).mono fun e w' he=>by
  cases e with
  | returned v =>
   obtain ⟨d,h',β',V',hq,hrel,hd⟩:=he
   injection hq with e1 e2
   subst e1
   simp only[RepD,RepV] at hd
   exact ⟨by rw[hd],hrel.fr⟩
  | panicked ch=>obtain ⟨d,t,u,β',V',_,hq,_⟩:=he;cases hq
  | outgrown=>exact he.elim
theorem arg_g {g:GV} (h:RepV (fun k=>k < w.heap.size) w g v):RepD [] (fun _=>undef) (fun k=>k < w.heap.size) w (.g g) v:=by simp only[RepD];exact h
theorem args_nil:RepDL [] (fun _=>undef) (fun k=>k < w.heap.size) w [] []:=by simp[RepDL]
theorem args_cons {d:D} {ds:List D} {vs:List Value} (h:RepD [] (fun _=>undef) (fun k=>k < w.heap.size) w d v) (r:RepDL [] (fun _=>undef) (fun k=>k < w.heap.size) w ds vs):RepDL [] (fun _=>undef) (fun k=>k < w.heap.size) w (d :: ds) (v :: vs):=by
 simp only[RepDL]
 exact ⟨v,vs,rfl,h,r⟩
end
end Go.Dm

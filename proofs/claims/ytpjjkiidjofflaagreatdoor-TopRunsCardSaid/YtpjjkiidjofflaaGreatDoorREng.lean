import Derived.OwnWalk
import Derived.Below
import Derived.Laws.OwnMore
import Derived.Laws.Tables
import Derived.Laws.CopyRow
import Derived.Laws.AppendOwnNone
import Derived.WalkSmall
import Derived.Maps.AppendAt
import Derived.Laws.MakeOwn
import Derived.Lib.Strings
import Derived.Laws.Concat
import Derived.Laws.Small
import Derived.Orders
namespace Go.Eng
open Go.RowKit
inductive SV where
 | v (x:Value)
 | sb (c:Bool)
 | loc (i off:Nat)
structure Fr (own:Nat->Prop) (w w':World):Prop where
 os:w'.os=w.os
 tape:w'.tape=w.tape
 output:w'.output=w.output
 size:w.heap.size<=w'.heap.size
 block:∀k,k < w.heap.size->¬ own k->w'.heap[k]?=w.heap[k]?
theorem Fr.refl (own:Nat->Prop) (w:World):Fr own w w:=⟨rfl,rfl,rfl,Nat.le_refl _,λ_ _ _=>rfl⟩
theorem Fr.below {w w':World} (h:Fr (λ_=>False) w w'):Below w.heap.size w w':=⟨h.os,h.tape,h.output,h.size,λk hk=>h.block k hk (λh=>h)⟩
inductive TK where
 | cell
 | bool
 | int (k:IntKind)
 | str
 | slice (e:TypeId)
 | struct (fs:List (Nat × Nat))
 | array (n:Nat) (e:TypeId)
 | iface
structure TI where
 agg:Bool
 size:Nat
 bytes:Nat
 zero:List Value
 kind:TK
abbrev Tab:=TypeId->Option TI
def isAggD:TypeDesc->Bool
 | .struct _ | .array _ _=>true
 | _=>false
def descOk (P:Program) (d:TypeDesc):TK->Prop
 | .cell=>(match d with | .interface _=>False | _=>True)
 | .bool=>d=.bool
 | .int k=>d=.int k
 | .str=>d=.string
 | .slice e=>d=.slice e
 | .struct fs=>∃fields,d=.struct fields/\fields.size=fs.length/\∀(k off sz:Nat),fs[k]?=some (off,sz)->∃(f:Field) (inf:TypeInfo),fields[k]?=some f/\f.offset=off/\P.info? f.type=some inf/\inf.size=sz/\sz≠0
 | .array n e=>d=.array n e
 | .iface=>(match d with | .interface _=>True | _=>False)
structure InfoOk (P:Program) (t:TypeId) (i:TI):Prop where
 d:∃d,P.underlying t=some d/\descOk P d i.kind/\isAggD d=i.agg
 inf:∃(inf:TypeInfo) (z:Value),P.info? t=some inf/\inf.size=i.size/\inf.bytes=i.bytes/\inf.zero=some z/\z.cells=i.zero.toArray
 zsize:i.zero.length=i.size
def TabOk (P:Program) (T:Tab):Prop:=∀t i,T t=some i->InfoOk P t i
def fnOk (P:Program) (g:FuncId):Bool :=
 match P.funcs[g]? with
 | some fn => !(fn.name == "runtime.NumGoroutine") && fn.body.isSome
 | none=>false
def isI64 (x c:Int):Prop:=IntKind.i64.wrap x=c
theorem isI64.of {x:Int} (h0:-9223372036854775808<=x) (h1:x<=9223372036854775807):isI64 x x:=by unfold isI64;rw[IntKind.wrap_i64];omega
def ZeR:List Value->Nat->List Value->List Value
 | l,_,[]=>l
 | l,k,v :: vs=>ZeR (l.set k v) (k+1) vs
def ZjB (place:Nat->Option (Nat × Nat)):List Value->List (Nat × List Value)->Option (List Value)
 | cs,[]=>some cs
 | cs,(i,v) :: rest =>
  match place i with
  | none=>none
  | some (off,size)=>bif Nat.beq v.length size && Nat.ble (off+size) cs.length then ZjB place (ZeR cs off v) rest else none
def ZaB (x:Value):List Value :=
 match x with
 | .agg cs=>cs.toList
 | x=>[x]
def flat:List Value->Bool
 | []=>true
 | v :: vs=>v.oneCell' && flat vs
def ZdU (z:List Value):Nat->List Value
 | 0=>[]
 | n+1=>z++ZdU z n
end Go.Eng
namespace Go.Eng
open Go.RowKit
theorem Zee (x:Value):ZaB x=x.cells.toList:=by cases x<;>rfl
theorem owns_keep {w w':World} {b e sz n:Nat} {v:Value} {xs:List Value} (h:w.ownsRow b e sz v n xs) (hb:∀k,v.ownBlock=some k->w'.heap[k]?=w.heap[k]?):w'.ownsRow b e sz v n xs:=by
 refine ⟨h.1,?_⟩
 rcases h.2 with hn | ⟨g,cap,cur,rfl,hg,hgg,rest⟩
 ·exact .inl hn
 ·exact .inr ⟨g,cap,cur,rfl,hg,(hb g rfl).trans hgg,rest⟩
section
variable {w w':World}
theorem Fr.alloc (G:Nat->Prop) (w:World) (o:Obj):Fr G w (w.alloc o) :=
 ⟨rfl,rfl,rfl,by simp,λk hk _=>Below.heap_alloc w o k hk⟩
theorem Zhd (w:World) (g:Nat) (cs:Array Value) (k:Nat) (h:k≠g):(w.setRow g cs).heap[k]?=w.heap[k]?:=by simp only[World.setRow,Array.getElem?_modify];rw[if_neg (λe=>h e.symm)]
theorem Fr.setRow (w:World) (g:Nat) (cs:Array Value):Fr (λk=>k=g) w (w.setRow g cs) :=
 ⟨rfl,rfl,rfl,by simp[World.setRow],λk _ hn=>Zhd w g cs k hn⟩
end
end Go.Eng
namespace Go.Eng
open Go.RowKit
section
variable {w w':World}
theorem Zce (b o j:Nat):(⟨b,o,none⟩:Addr).add j=⟨b,o+j,none⟩:=by unfold Addr.add;split<;>simp_all
theorem Zfg (a:Addr) (j:Nat):(a.add j).block=a.block:=by unfold Addr.add;split<;>rfl
theorem Zdu {P:Program} {t:TypeId} {i:TI} (hi:InfoOk P t i) (hagg:i.agg=false) {a:Addr} {v:Value} (hc:w.cell? a=some v):(loadVar t a).run P w=.ok v w:=by
 obtain ⟨d,hd,_,hda⟩:=hi.d;rw[hagg] at hda;have:(isAgg t).run P w=.ok false w:=by
  cases d<;>simp_all [isAgg,run_underlying hd,isAggD]
 simp[loadVar,this,hc]
theorem Zdv {P:Program} {t:TypeId} {i:TI} (hi:InfoOk P t i) (hagg:i.agg=true) {a:Addr} {vs:List Value} (hl:vs.length=i.size) (hc:∀j v,vs[j]?=some v->w.cell? (a.add j)=some v) :
  (loadVar t a).run P w=.ok (.agg vs.toArray) w:=by
 obtain ⟨d,hd,_,hda⟩:=hi.d;obtain ⟨inf,z,hinf,hsz,_⟩:=hi.inf;rw[hagg] at hda;have h1:(isAgg t).run P w=.ok true w:=by
  cases d<;>simp_all [isAgg,run_underlying hd,isAggD]
 have h2:(sizeOf t).run P w=.ok vs.length w:=by simp[sizeOf,typeInfo,hinf,hsz,hl]
 simp[loadVar,h1,h2,run_loadCells_list (P:=P) w a vs hc]
theorem length_setAt (vs:List Value):∀(l:List Value) (o:Nat),(ZeR l o vs).length=l.length:=by
 induction vs with
 | nil=>intro l o;rfl
 | cons v vs ih=>intro l o;simp[ZeR,ih]
theorem setAt_eq (vs:List Value):∀(l:List Value) (o:Nat),o+vs.length<=l.length->ZeR l o vs=l.take o++vs++l.drop (o+vs.length):=by
 induction vs with
 | nil=>intro l o h;simp[ZeR]
 | cons v vs ih =>
  intro l o h;simp only[List.length_cons] at h;rw[ZeR,ih (l.set o v) (o+1) (by simp;omega)];have h1:(l.set o v).take (o+1)=l.take o++[v]:=by rw[List.take_succ_eq_append_getElem (by simp;omega)];simp[List.take_set_of_le]
  have h2:(l.set o v).drop (o+1+vs.length)=l.drop (o+(vs.length+1)):=by rw[List.drop_set_of_lt (by omega),show o+1+vs.length=o+(vs.length+1) from by omega]
  rw[h1,h2];simp[List.append_assoc,List.length_cons]
theorem take_setAt (vs:List Value) (l:List Value) (m o:Nat) (hm:m<=l.length) (ho:o+vs.length<=m):(l.take o++vs++l.drop (o+vs.length)).take m=ZeR (l.take m) o vs:=by
 rw[setAt_eq _ _ _ (by rw[List.length_take];omega)];rw[List.take_append,List.take_append,List.take_take,Nat.min_eq_right (by omega)];have e1:(l.take o).length=o:=by rw[List.length_take];omega
 have e2:vs.take (m - o)=vs:=List.take_of_length_le (by omega);rw[e1,e2,List.take_take,Nat.min_eq_left (by omega),List.length_append,e1,List.drop_take]
theorem flat_mem:∀{l:List Value},flat l=true->∀v∈l,v.oneCell'=true:=by
 intro l
 induction l with
 | nil=>intro _ v hv;simp at hv
 | cons a l ih =>
  intro h v hv;simp only[flat,Bool.and_eq_true] at h
  rcases List.mem_cons.1 hv with rfl | hv
  ·exact h.1
  ·exact ih h.2 v hv
theorem ZiF {P:Program} {t:TypeId} {i:TI} (hi:InfoOk P t i) {y:Value} (hl:(ZaB y).length=i.size) (hf:flat (ZaB y)=true) {g o:Nat} {cur:Array Value} {t':TypeId}
  (hg:w.heap[g]?=some (.cells cur t' (0,0))) (hfit:o+(ZaB y).length<=cur.size) :
  (storeVar t ⟨g,o,none⟩ y).run P w=.ok () (w.setRow g (cur.toList.take o++ZaB y++cur.toList.drop (o+(ZaB y).length)).toArray):=by
 obtain ⟨inf,z,hinf,hsz,_⟩:=hi.inf;have hs:y.cells.size=inf.size:=by rw[Zee] at hl;simpa [hsz] using hl
 have:=run_storeCells_at (P:=P) g o t' (ZaB y) 0 cur w hg (by simpa using hfit) (flat_mem hf);rw[Zee] at this;simp only[Nat.add_zero] at this;rw[Zee];simp[storeVar,sizeOf,typeInfo,hinf,hs,this]
theorem ZcP {P:Program} {T:Tab} (hT:TabOk P T) {s f off sz:Nat} {i:TI} {fs:List (Nat × Nat)} (hs:T s=some i) (hk:i.kind=.struct fs) (hf:fs[f]?=some (off,sz)) (a:Addr) (w:World) :
  (Instr.fieldAt s (.pointer (some a)) f).run P w=.ok (.pointer (some (a.add off))) w:=by obtain ⟨d,hd,hdk,_⟩:=(hT s i hs).d;rw[hk] at hdk;obtain ⟨fields,rfl,_,hfs⟩:=hdk;obtain ⟨fd,inf,hfd,rfl,hinf,rfl,hne⟩:=hfs f off sz hf;simp[Instr.fieldAt,run_underlying hd,hfd,Instr.sureAddr,fieldPlace,sizeOf,typeInfo,hinf,hne]
theorem ZcV {P:Program} {T:Tab} (hT:TabOk P T) {t e:TypeId} {i ei:TI} (hs:T t=some i) (hk:i.kind=.slice e) (he:T e=some ei) (b:Addr) (n c j:Nat) (hj:j < n) (w:World) :
  (Instr.indexAt t (.slice (some b) n c) (.int .i64 (j:Int))).run P w=.ok (.pointer (some (b.add (j*ei.size)))) w:=by
 obtain ⟨d,hd,hdk,_⟩:=(hT t i hs).d;rw[hk] at hdk;have hdk:d=.slice e:=hdk;subst hdk;obtain ⟨inf,z,hinf,hsz,_⟩:=(hT e ei he).inf;have h1:(0:Int)<=(j:Int)/\(j:Int) < (n:Int):=by omega
 simp[Instr.indexAt,run_underlying hd,asIntOf,sizeOf,typeInfo,hinf,hsz,hj]
theorem Zdw {P:Program} {T:Tab} (hT:TabOk P T) {t e:TypeId} {i ei:TI} {n:Nat} (hs:T t=some i) (hk:i.kind=.array n e) (he:T e=some ei) (b:Addr) (j:Nat) (hj:j < n) (w:World) :
  (Instr.indexAt t (.pointer (some b)) (.int .i64 (j:Int))).run P w=.ok (.pointer (some (b.add (j*ei.size)))) w:=by obtain ⟨d,hd,hdk,_⟩:=(hT t i hs).d;rw[hk] at hdk;have hdk:d=.array n e:=hdk;subst hdk;obtain ⟨inf,z,hinf,hsz,_⟩:=(hT e ei he).inf;simp[Instr.indexAt,run_underlying hd,asIntOf,Instr.sureAddr,sizeOf,typeInfo,hinf,hsz,hj]
theorem Zd4 {P:Program} {T:Tab} (hT:TabOk P T) {t e:TypeId} {i:TI} (hs:T t=some i) (hk:i.kind=.slice e) (a:Option Addr) (n c:Nat) (ty:TypeId) (w:World) :
  (Builtin.len_ #[t] ty #[.slice a n c]).run P w=.ok (.int .i64 (n:Int)) w:=by obtain ⟨d,hd,hdk,_⟩:=(hT t i hs).d;rw[hk] at hdk;have hdk:d=.slice e:=hdk;subst hdk;simp[Builtin.len_,run_underlying hd,goInt]
theorem run_len_str {P:Program} {T:Tab} (hT:TabOk P T) {t:TypeId} {i:TI} (hs:T t=some i) (hk:i.kind=.str) (s:ByteArray) (ty:TypeId) (w:World) :
  (Builtin.len_ #[t] ty #[.string s]).run P w=.ok (.int .i64 (s.data.toList.length:Int)) w:=by obtain ⟨d,hd,hdk,_⟩:=(hT t i hs).d;rw[hk] at hdk;have hdk:d=.string:=hdk;subst hdk;show _=Result.ok (Value.int .i64 ((s.size:Nat):Int)) w;simp[Builtin.len_,run_underlying hd,goInt]
theorem fill_eq (place:Nat->Option (Nat × Nat)):∀(parts:List (Nat × Value)) (cs out:List Value),ZjB place cs (parts.map λp=>(p.1,ZaB p.2))=some out->Instr.fill place cs.toArray parts=some out.toArray:=by
 intro parts
 induction parts with
 | nil=>intro cs out h;simp[ZjB] at h;subst h;rfl
 | cons p rest ih =>
  intro cs out h;obtain ⟨k,v⟩:=p;simp only[List.map_cons,ZjB] at h
  cases hp:place k with
  | none=>rw[hp] at h;cases h
  | some q =>
   obtain ⟨off,size⟩:=q;rw[hp] at h;simp only at h
   cases hb:Nat.beq (ZaB v).length size && Nat.ble (off+size) cs.length with
   | false=>rw[hb] at h;cases h
   | true =>
    rw[hb] at h;simp only[Bool.and_eq_true] at hb;have h1:(ZaB v).length=size:=Nat.eq_of_beq_eq_true hb.1;have h2:off+size<=cs.length:=Nat.le_of_ble_eq_true hb.2;have h:=ih _ _ h;simp only[Instr.fill,hp];have hsz:v.cells.size=size:=by rw[Zee] at h1;simpa using h1
    rw[if_neg (by simp[hsz];omega)];rw[<- h]
    congr 1
    rw[Zee];have key:∀(vs:List Value) (o:Nat) (l:List Value),(vs.zipIdx o).foldl (fun (a:Array Value) (x:Value × Nat)=>a.setIfInBounds (off+x.2) x.1) l.toArray=(ZeR l (off+o) vs).toArray:=by
     intro vs
     induction vs with
     | nil=>intro o l;rfl
     | cons u us ih2 =>intro o l;simp only[List.zipIdx_cons,List.foldl_cons,List.setIfInBounds_toArray,ZeR];rw[ih2 (o+1) (l.set (off+o) u)];rfl
    have:=key v.cells.toList 0 cs;rw[<- Array.foldl_toList,Array.toList_zipIdx]
    simpa using this
theorem run_build_st {P:Program} {T:Tab} (hT:TabOk P T) {t:TypeId} {i:TI} {fs:List (Nat × Nat)} (hs:T t=some i) (hk:i.kind=.struct fs) (parts:Array (Nat × Value)) (out:List Value)
  (h:ZjB (fs[·]?) i.zero (parts.toList.map λp=>(p.1,ZaB p.2))=some out) (w:World) :
  (Instr.build t parts).run P w=.ok (.agg out.toArray) w:=by
 obtain ⟨d,hd,hdk,_⟩:=(hT t i hs).d;rw[hk] at hdk;obtain ⟨fields,rfl,hlen,hfs⟩:=hdk;obtain ⟨inf,z,hinf,_,_,hz,hzc⟩:=(hT t i hs).inf;have hm:(fields.mapM (m:=Sem) λf=>do pure (f.offset,<- sizeOf f.type)).run P w=.ok fs.toArray w:=by
  have key:∀(l:List Field) (gs:List (Nat × Nat)),l.length=gs.length->(∀(k off sz:Nat),gs[k]?=some (off,sz)->∃(f:Field) (inf:TypeInfo),l[k]?=some f/\f.offset=off/\P.info? f.type=some inf/\inf.size=sz/\sz≠0) ->
    (l.mapM (m:=Sem) λf=>do pure (f.offset,<- sizeOf f.type)).run P w=.ok gs w:=by
   intro l
   induction l with
   | nil=>intro gs hg _;cases gs with | nil=>rfl | cons a b=>simp at hg
   | cons f l ih =>
    intro gs hg hh
    cases gs with
    | nil=>simp at hg
    | cons a b =>obtain ⟨off,sz⟩:=a;obtain ⟨f',inf',hf',rfl,hinf',rfl,_⟩:=hh 0 off sz rfl;simp at hf';subst hf';have:=ih b (by simpa using hg) (λk off sz hk=>by simpa using hh (k+1) off sz (by simpa using hk));simp only[List.mapM_cons,Sem.run_bind,sizeOf,typeInfo,run_program,Result.andThen_ok,hinf',Sem.run_pure];simp only[sizeOf,typeInfo] at this;rw[this];rfl
  have:=key fields.toList fs (by simpa using hlen) (λk off sz hk=>by simpa using hfs k off sz hk);rw[Array.mapM_eq_mapM_toList,Sem.run_map,this];rfl
 have hfill:=fill_eq (fs[·]?) parts.toList i.zero out h;simp only[Instr.build,Sem.run_bind,zeroValue,typeInfo,run_program,Result.andThen_ok,hinf,Sem.run_pure,hz,run_underlying hd,hm,hzc];have hfill':Instr.fill (λx=>fs.toArray[x]?) i.zero.toArray parts.toList=some out.toArray:=by
  rw[<- hfill]
  congr 1
  funext x
  simp
 rw[hfill'];rfl
end
end Go.Eng
namespace Go.Eng
open Go.RowKit
theorem Zet (z:List Value):∀n,(ZdU z n).length=n*z.length:=by
 intro n
 induction n with
 | zero=>simp[ZdU]
 | succ n ih=>simp[ZdU,ih,Nat.succ_mul,Nat.add_comm]
theorem getElem_repL (z:List Value) (_hz:0 < z.length):∀(n j:Nat),j < n*z.length->(ZdU z n)[j]?=z[j % z.length]?:=by
 intro n
 induction n with
 | zero=>intro j h;simp at h
 | succ n ih =>
  intro j h;rw[ZdU]
  by_cases hj:j < z.length
  ·rw[List.getElem?_append_left hj,Nat.mod_eq_of_lt hj]
  ·rw[List.getElem?_append_right (by omega),ih (j - z.length) (by rw[Nat.succ_mul] at h;omega),<- Nat.mod_eq_sub_mod (by omega)]
theorem ZiR (z:List Value) (hz:0 < z.length) (n:Nat):(Array.range (n*z.length)).map (λi=>z.toArray[i % z.toArray.size]!)=(ZdU z n).toArray:=by
 apply Array.ext'
 apply List.ext_getElem?
 intro j
 by_cases hj:j < n*z.length
 ·show _=(ZdU z n)[j]?;rw[getElem_repL z hz n j hj];have hm:j % z.length < z.length:=Nat.mod_lt _ hz;simp[hj,hm]
 ·have h1:(ZdU z n)[j]?=none:=List.getElem?_eq_none (by rw[Zet];omega);simp[h1];omega
theorem fillO_length (place:Nat->Option (Nat × Nat)):∀(parts:List (Nat × List Value)) (cs out:List Value),ZjB place cs parts=some out->out.length=cs.length:=by
 intro parts
 induction parts with
 | nil=>intro cs out h;simp[ZjB] at h;subst h;rfl
 | cons p rest ih =>
  intro cs out h;obtain ⟨k,v⟩:=p;simp only[ZjB] at h
  cases hp:place k with
  | none=>rw[hp] at h;cases h
  | some q =>
   obtain ⟨off,size⟩:=q;rw[hp] at h;simp only at h
   cases hb:Nat.beq v.length size && Nat.ble (off+size) cs.length with
   | false=>rw[hb] at h;cases h
   | true=>rw[hb] at h;rw[ih _ _ h,length_setAt]
section
variable {w w':World}
theorem ZdT {P:Program} (l y:Nat) (code:BoundsCode) (h:l<=y):(Instr.sliceBound (.int .i64 (l:Int)) y code).run P w=.ok l w:=by
 have h1:(0:Int)<=(l:Int)/\(l:Int)<=(y:Int):=by omega
 simp[Instr.sliceBound,asIntOf,h]
theorem Zfo {P:Program} (b:Bool) (len cap l h:Nat) (lo hi:Option Value) (hlo:match lo with | none=>l=0 | some p=>p=.int .i64 (l:Int)) (hhi:match hi with | none=>h=len | some p=>p=.int .i64 (h:Int))
  (hl:l<=h) (hc:h<=cap):(Instr.sliceBounds b len cap lo hi none).run P w=.ok (l,h,cap) w:=by
 cases lo with
 | none =>
  cases hi with
  | none=>simp only at hlo hhi;subst hlo;subst hhi;simp[Instr.sliceBounds]
  | some q=>simp only at hlo hhi;subst hlo;subst hhi;cases b<;>simp[Instr.sliceBounds,ZdT,hc]
 | some p =>
  cases hi with
  | none=>simp only at hlo hhi;subst hlo;subst hhi;simp[Instr.sliceBounds,ZdT,hl]
  | some q=>simp only at hlo hhi;subst hlo;subst hhi;cases b<;>simp[Instr.sliceBounds,ZdT,hc,hl]
theorem extract_list (s:ByteArray) (l h:Nat) (_hh:h<=s.data.toList.length):s.extract l h=⟨⟨(s.data.toList.take h).drop l⟩⟩:=by
 have:(s.extract l h).data=(⟨(s.data.toList.take h).drop l⟩:Array UInt8):=by
  rw[ByteArray.data_extract]
  apply Array.ext'
  simp[Array.toList_extract,List.extract_eq_take_drop,List.drop_take]
 cases hs:s.extract l h with
 | mk d=>rw[hs] at this;simp only at this;rw[this]
end
end Go.Eng
namespace Go.Eng
open Go.RowKit
def Zbe (P:Program) (next:Value->World->Prop) (qp:List PanicEntry->World->Prop):Result Next->Prop
 | .ok (.value v) w'=>next v w'
 | .ok .skip w'=>next undef w'
 | .ok (.enter f args) w'=>Calls P f args w' fun
   | .returned v,w''=>next v w''
   | .panicked ch,w''=>qp ch w''
   | .outgrown,_=>False
 | .halt (.panic v) w'=>qp [{ v,recovered:=false }] w'
 | _=>False
theorem Zbe.wp {P:Program} {o:Oper} {a:Act} {w:World} {next:Act->World->Prop} {Q:Exit->Act->World->Prop}
  (h:Zbe P (λv w'=>next (a.put o.dst v) w') (λch w'=>Q (.panic ch) a w') ((execOp a.eval o).run P w)):o.wp P a w next Q:=by
 unfold Oper.wp;revert h
 cases (execOp a.eval o).run P w with
 | ok x w' =>
  cases x<;>intro h<;>try exact h.elim
  ·exact h
  ·exact h
  ·refine h.mono λe w'' he=>?_
   cases e with
   | returned v=>exact he
   | panicked ch=>exact he
   | outgrown=>exact he.elim
 | halt x w' =>
  cases x<;>intro h<;>first | exact h.elim | exact h
section
variable {P:Program} {T:Tab} {F:FuncId->Bool} {n:Nat} {a:Act} {w:World} {next:Value->World->Prop} {qp:List PanicEntry->World->Prop}
end
end Go.Eng
namespace Go.Eng
open Go.RowKit
section
variable {P:Program} {T:Tab} {F:FuncId->Bool} {n:Nat} {a:Act} {w:World} {next:Value->World->Prop} {qp:List PanicEntry->World->Prop}
theorem run_v {o:Oper} {ρ:Operand->Value} {x:Sem Value} {v:Value} {w':World} (he:execOp ρ o=(do pure (.value (<- x)))) (h:x.run P w=.ok v w'):(execOp ρ o).run P w=.ok (.value v) w':=by rw[he,Sem.run_bind,h];rfl
theorem str_eq (s t:ByteArray):(s.toList == t.toList)=decide (s.data.toList=t.data.toList):=by
 rw[ByteArray.toList_eq,ByteArray.toList_eq]
 by_cases hd:s.data.toList=t.data.toList
 ·simp[hd]
 ·have hd':¬ s.data=t.data:=λe=>hd (by rw[e]);simp[hd']
theorem str_add (s t:ByteArray):s++t=⟨⟨s.data.toList++t.data.toList⟩⟩:=by
 have h:(s++t).data=(⟨s.data.toList++t.data.toList⟩:Array UInt8):=by
  apply Array.ext'
  simp
 cases hs:s++t with
 | mk d=>rw[hs] at h;simp only at h;rw[h]
end
end Go.Eng
namespace Go.Eng
open Go.RowKit
section
variable {P:Program} {T:Tab} {F:FuncId->Bool} {n:Nat} {a:Act} {w:World} {next:Value->World->Prop} {qp:List PanicEntry->World->Prop}
end
end Go.Eng
namespace Go.Eng
open Go.RowKit
theorem ZcD {i d:Nat} (h:i≠d):Nat.beq i d=false:=by
 cases h':Nat.beq i d with
 | false=>rfl
 | true=>exact absurd (Nat.eq_of_beq_eq_true h') h
section
variable {P:Program} {T:Tab} {F:FuncId->Bool} {n:Nat}
def StepW (P:Program) (ops:Array Oper) (o:Oper) (a:Act) (w:World) (next:Act->World->Prop) (Q:Exit->Act->World->Prop):Prop :=
 if Region.wanted o (yielded ops a.tmps)=true then o.wp P a w next Q else next (a.put o.dst undef) w
end
end Go.Eng
namespace Go.Eng
open Go.RowKit
def eqV:Value->Value->Bool
 | .int k a,.int k' b=>decide (k=k') && decide (a=b)
 | .bool a,.bool b=>a == b
 | .string a,.string b=>a.data.toList == b.data.toList
 | .slice none n c,.slice none n' c'=>n == n' && c == c'
 | .pointer none,.pointer none=>true
 | .map none,.map none=>true
 | .chan none,.chan none=>true
 | .nilFunc,.nilFunc=>true
 | .nilIface,.nilIface=>true
 | _,_=>false
theorem eqV_eq {a b:Value} (h:eqV a b=true):a=b:=by
 unfold eqV at h
 split at h<;>first | (cases h;done) | rfl | skip
 ·simp only[Bool.and_eq_true,decide_eq_true_eq] at h;rw[h.1,h.2]
 ·rw[eq_of_beq h]
 ·rename_i s t;have:s=t:=by cases s;cases t;rename_i x y;have:=eq_of_beq h;simp at this;rw[this]
  rw[this]
 ·simp only[Bool.and_eq_true,beq_iff_eq] at h;rw[h.1,h.2]
def eqVL:List Value->List Value->Bool
 | [],[]=>true
 | a :: l,b :: m=>eqV a b && eqVL l m
 | _,_=>false
theorem eqVL_eq:∀{a b:List Value},eqVL a b=true->a=b:=by
 intro a
 induction a with
 | nil=>intro b h;cases b with | nil=>rfl | cons x y=>cases h
 | cons x l ih =>
  intro b h
  cases b with
  | nil=>cases h
  | cons y m=>simp only[eqVL,Bool.and_eq_true] at h;rw[eqV_eq h.1,ih h.2]
def ZeA (P:Program):List Field->List (Nat × Nat)->Bool
 | [],[]=>true
 | f :: fs,(off,sz) :: l=>f.offset == off && (match P.info? f.type with | some inf=>inf.size == sz | none=>false) && !(sz == 0) && ZeA P fs l
 | _,_=>false
theorem ZjD {P:Program}:∀{fs:List Field} {l:List (Nat × Nat)},ZeA P fs l=true->fs.length=l.length/\∀(k off sz:Nat),l[k]?=some (off,sz)->∃(f:Field) (inf:TypeInfo),fs[k]?=some f/\f.offset=off/\P.info? f.type=some inf/\inf.size=sz/\sz≠0:=by
 intro fs
 induction fs with
 | nil=>intro l h;cases l with | nil=>exact ⟨rfl,λk off sz hk=>by simp at hk⟩ | cons x y=>cases h
 | cons f fs ih =>
  intro l h
  cases l with
  | nil=>cases h
  | cons p l =>
   obtain ⟨off,sz⟩:=p;simp only[ZeA,Bool.and_eq_true,beq_iff_eq,Bool.not_eq_true',beq_eq_false_iff_ne] at h;obtain ⟨⟨⟨h1,h2⟩,h3⟩,h4⟩:=h;obtain ⟨hl,hh⟩:=ih h4;refine ⟨by simp[hl],λk o s hk=>?_⟩
   cases k with
   | zero =>
    simp at hk;obtain ⟨rfl,rfl⟩:=hk
    cases hi:P.info? f.type with
    | none=>rw[hi] at h2;cases h2
    | some inf=>rw[hi] at h2;exact ⟨f,inf,rfl,h1,hi,eq_of_beq h2,h3⟩
   | succ k=>exact hh k o s (by simpa using hk)
def ZiV (P:Program):TypeDesc->TK->Bool
 | .interface _,.iface=>true
 | .interface _,_=>false
 | .bool,.bool=>true
 | .int k,.int k'=>decide (k=k')
 | .string,.str=>true
 | .slice e,.slice e'=>e == e'
 | .struct fs,.struct l=>ZeA P fs.toList l
 | .array n e,.array n' e'=>n == n' && e == e'
 | _,.cell=>true
 | _,_=>false
theorem kindCheck_ok {P:Program} {d:TypeDesc} {k:TK} (h:ZiV P d k=true):descOk P d k:=by
 unfold ZiV at h
 split at h<;>first | (cases h;done) | skip
 ·trivial
 ·rfl
 ·rw[of_decide_eq_true h];rfl
 ·rfl
 ·rw[eq_of_beq h];rfl
 ·rename_i fs l;obtain ⟨h1,h2⟩:=ZjD h;exact ⟨fs,rfl,by simpa using h1,λk off sz hk=>by simpa using h2 k off sz hk⟩
 ·simp only[Bool.and_eq_true,beq_iff_eq] at h;rw[h.1,h.2];rfl
 ·unfold descOk
  split<;>first | trivial | simp_all
def ZiW (P:Program) (t:TypeId) (i:TI):Bool :=
 match P.underlying t,P.info? t with
 | some d,some inf=>ZiV P d i.kind && inf.size == i.size && inf.bytes == i.bytes && (match inf.zero with | some z=>eqVL z.cells.toList i.zero | none=>false) && (isAggD d == i.agg) && (i.zero.length == i.size)
 | _,_=>false
theorem infoCheck_ok {P:Program} {t:TypeId} {i:TI} (h:ZiW P t i=true):InfoOk P t i:=by
 unfold ZiW at h
 split at h
 ·rename_i d inf hd hi;simp only[Bool.and_eq_true,beq_iff_eq] at h;obtain ⟨⟨⟨⟨⟨h1,h2⟩,h3⟩,h4⟩,h5⟩,h6⟩:=h
  cases hz:inf.zero with
  | none=>rw[hz] at h4;cases h4
  | some z =>rw[hz] at h4;exact ⟨⟨d,hd,kindCheck_ok h1,h5⟩,⟨inf,z,hi,h2,h3,hz,by rw[<- eqVL_eq h4]⟩,h6⟩
 ·cases h
def lookT:List (TypeId × TI)->Tab
 | [],_=>none
 | p :: l,t=>bif Nat.beq p.1 t then some p.2 else lookT l t
def tabCheck (P:Program) (L:List (TypeId × TI)):Bool:=L.all λp=>ZiW P p.1 p.2
theorem tabCheck_ok {P:Program} {L:List (TypeId × TI)} (h:tabCheck P L=true):TabOk P (lookT L):=by
 induction L with
 | nil=>intro t i ht;cases ht
 | cons p l ih =>
  unfold tabCheck at h;simp only[List.all_cons,Bool.and_eq_true] at h;intro t i ht;unfold lookT at ht
  cases hb:Nat.beq p.1 t with
  | true =>rw[hb] at ht;have he:=Nat.eq_of_beq_eq_true hb;injection ht with ht;subst ht;subst he;exact infoCheck_ok h.1
  | false=>rw[hb] at ht;exact ih h.2 t i ht
def fnsIn (lo N:Nat) (g:Nat):Bool:=Nat.ble lo g && Nat.blt g N
def fnsCheck (P:Program) (lo:Nat):Nat->Bool
 | 0=>true
 | N+1=>(Nat.blt N lo || fnOk P N) && fnsCheck P lo N
theorem fns_ok {P:Program} {lo N:Nat} (h:fnsCheck P lo N=true):∀g:Nat,fnsIn lo N g=true->fnOk P g=true:=by
 induction N with
 | zero=>intro g hg;simp[fnsIn,Nat.blt] at hg
 | succ N ih =>
  intro g hg;simp only[fnsCheck,Bool.and_eq_true,Bool.or_eq_true] at h;simp only[fnsIn,Bool.and_eq_true] at hg;have h1:=Nat.le_of_ble_eq_true hg.1;have h2:g < N+1:=Nat.le_of_ble_eq_true hg.2
  by_cases hgn:g=N
  ·subst hgn
   rcases h.1 with h3 | h3
   ·have:g < lo:=Nat.le_of_ble_eq_true h3;omega
   ·exact h3
  ·exact ih h.2 g (by simp only[fnsIn,Bool.and_eq_true];exact ⟨hg.1,Nat.ble_eq_true_of_le (by omega)⟩)
def oneOr:List Value->Value
 | [v]=>v
 | vs=>.tuple vs.toArray
section
variable {P:Program} {T:Tab} {F:FuncId->Bool} {n:Nat}
end
end Go.Eng

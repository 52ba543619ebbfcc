import Derived.OwnWalk
import Derived.Below
import Derived.Laws.OwnMore
import Derived.Laws.Tables
import Derived.Laws.CopyRow
import Derived.Laws.AppendOwnNone
import Derived.WalkSmall
import Derived.Maps.AppendAt
import Derived.Laws.MakeOwn
import Derived.Lib.Strings
import Derived.Laws.Concat
import Derived.Laws.Small
import Derived.Orders
namespace Go.Proofs.YtpjjkiidjofflaaGreatDoor
end Go.Proofs.YtpjjkiidjofflaaGreatDoor
namespace ZN
end ZN
abbrev Yaa:=@List.getElem?_eq_some_iff
abbrev Yab:=@List.length_map
abbrev Yac:=@List.mem_cons_self
abbrev Yad:=@List.mem_cons_of_mem
abbrev Yae:=@List.length_append
abbrev Yaf:=@Bool.and_eq_true
abbrev Yag:=@List.Perm.refl
abbrev Yah:=@List.getElem_mem
abbrev Yai:=@List.map_append
abbrev Yaj:=@List.getElem?_append_left
abbrev Yak:=@List.getElem?_append_right
abbrev Yal:=@List.getD_eq_getElem?_getD
abbrev Yam:=@Classical.not_not
abbrev Yan:=@List.length_take
abbrev Yao:=@List.mem_append
abbrev Yap:=@Nat.eq_of_beq_eq_true
abbrev Yaq:=@List.getElem?_eq_getElem
abbrev Yar:=@List.map_cons
abbrev Yas:=@List.append_assoc
abbrev Yat:=@Array.getD_eq_getD_getElem?
abbrev Yau:=@Nat.zero_le
abbrev Yav:=@List.mem_cons
abbrev Yaw:=@Nat.le_of_ble_eq_true
abbrev Yax:=@Nat.le_refl
abbrev Yay:=@List.mem_singleton
abbrev Yaz:=@List.getElem?_take_of_lt
abbrev YaA:=@Nat.zero_add
abbrev YaB:=@Nat.le_trans
abbrev YaC:=@List.getElem?_map
abbrev YaD:=@Option.map_eq_some_iff
abbrev YaE:=@List.take_length
abbrev YaF:=@List.append_nil
abbrev YaG:=@Classical.byContradiction
abbrev YaH:=@List.mem_of_mem_take
abbrev YaI:=@Array.getElem?_eq_getElem
abbrev YaJ:=@List.take_of_length_le
abbrev YaK:=@List.getElem_of_mem
abbrev YaL:=@List.mem_of_getElem?
abbrev YaM:=@List.eq_nil_iff_forall_not_mem
abbrev YaN:=@Bool.not_eq_true'
abbrev YaO:=@Nat.beq_refl
abbrev YaP:=@List.mem_filterMap
abbrev YaQ:=@Nat.mul_le_mul_right
abbrev YaR:=@List.getElem?_set_ne
abbrev YaS:=@List.map_nil
abbrev YaT:=@List.not_mem_nil
abbrev YaU:=@List.mem_of_mem_drop
abbrev YaV:=@Bool.or_eq_true
abbrev YaW:=@List.mem_map
abbrev YaX:=@List.getElem?_drop
abbrev YaY:=@Nat.succ_mul
abbrev YaZ:=@List.mem_range
abbrev Ya0:=@Array.getElem?_replicate
abbrev Ya1:=@Array.getElem?_eq_some_iff
abbrev Ya2:=@Nat.lt_of_lt_of_le
abbrev Ya3:=@List.getElem?_take
abbrev Ya4:=@List.take_append_drop
abbrev Ya5:=@Option.some.inj
abbrev Ya6:=@List.length_drop
abbrev Ya7:=@List.all_eq_true
abbrev Ya8:=@Nat.add_sub_cancel
abbrev Ya9:=@List.take_append_of_le_length
abbrev Yba:=@Array.mem_toList_iff
abbrev Ybb:=@Nat.min_eq_left
abbrev Ybc:=@Nat.add_assoc
abbrev Ybd:=@List.length_set
abbrev Ybe:=@List.mem_flatMap
abbrev Ybf:=@List.drop_succ_cons
abbrev Ybg:=@Iff.rfl
abbrev Ybh:=@List.drop_eq_getElem_cons
abbrev Ybi:=@List.eq_nil_of_length_eq_zero
abbrev Ybj:=@Option.some.injEq
abbrev Ybk:=@Nat.sub_self
abbrev Ybl:=@Array.getElem?_setIfInBounds
abbrev Ybm:=@List.length_eq_zero_iff
abbrev Ybn:=@List.perm_append_singleton
abbrev Ybo:=@Int.le_refl
abbrev Ybp:=@List.getElem_append_right
abbrev Ybq:=@List.sum_append
abbrev Ybr:=@Nat.ble_eq_true_of_le
abbrev Ybs:=@List.getElem?_eq_none
abbrev Ybt:=@List.concat_eq_append
abbrev Ybu:=@List.take_append
abbrev Ybv:=@List.getElem_append_left
abbrev Ybw:=@Nat.add_mul
abbrev Ybx:=@List.pairwise_append
abbrev Yby:=@List.getElem?_modify
abbrev Ybz:=@Array.getElem?_append_right
abbrev YbA:=@Nat.not_lt_zero
abbrev YbB:=@Array.getElem?_append_left
abbrev YbC:=@Int.tdiv_eq_ediv_of_nonneg
abbrev YbD:=@List.ext_getElem?
abbrev YbE:=@List.map_take
abbrev YbF:=@List.map_drop
abbrev YbG:=@List.flatten_append
abbrev YbH:=@List.getElem?_set_self
abbrev YbI:=@Nat.not_lt
abbrev YbJ:=@Array.getElem_setIfInBounds
abbrev YbK:=@List.set_append_right
abbrev YbL:=@List.countP_le_length
abbrev YbM:=@List.eq_nil_or_concat
abbrev YbN:=@Int.tmod_eq_emod_of_nonneg
abbrev YbO:=@Array.all_eq_true
abbrev YbP:=@List.getElem?_set
abbrev YbQ:=@List.flatMap_cons
abbrev YbR:=@List.set_append_left
abbrev YbS:=@List.take_take
abbrev YbT:=@Int.toNat_of_nonneg
abbrev YbU:=@List.length_pos_iff
abbrev YbV:=@List.drop_of_length_le
abbrev YbW:=@List.length_eq_one_iff
abbrev YbX:=@Classical.choose_spec
abbrev YbY:=@Bool.or_eq_false_iff
abbrev YbZ:=@List.mem_append_left
abbrev Yb0:=@Nat.lt_succ_self
abbrev Yb1:=@List.prefix_refl
abbrev Yb2:=@List.getLast?_append
abbrev Yb3:=@List.dropLast_concat
abbrev Yb4:=@List.map_congr_left
abbrev Yb5:=@List.mem_filter
abbrev Yb6:=@Bool.false_eq_true
abbrev Yb7:=@List.map_set
abbrev Yb8:=@Nat.add_sub_cancel_left
abbrev Yb9:=@List.pairwise_singleton
abbrev Yca:=@Nat.lt_succ_of_le
abbrev Ycb:=@List.filter_eq_nil_iff
abbrev Ycc:=@List.countP_cons
abbrev Ycd:=@List.take_succ_eq_append_getElem
abbrev Yce:=@List.drop_length
abbrev Ycf:=@List.length_replicate
abbrev Ycg:=@Array.getElem?_setIfInBounds_ne
abbrev Ych:=@Nat.and_two_pow_sub_one_eq_mod
abbrev Yci:=@Nat.and_le_left
abbrev Ycj:=@List.map_map
abbrev Yck:=@Nat.div_le_self
abbrev Ycl:=@List.range_succ
abbrev Ycm:=@List.find?_eq_some_iff_getElem
abbrev Ycn:=@List.drop_eq_nil_iff
abbrev Yco:=@List.drop_take
abbrev Ycp:=@List.getElem_range
abbrev Ycq:=@List.length_modify
abbrev Ycr:=@List.getElem?_concat_length
abbrev Ycs:=@Bool.true_and
abbrev Yct:=@Nat.lt_trichotomy
abbrev Ycu:=@List.length_range
abbrev Ycv:=@List.mem_or_eq_of_mem_set
abbrev Ycw:=@Array.mapM_eq_mapM_toList
abbrev Ycx:=@List.mem_of_find?_eq_some
abbrev Ycy:=@List.mem_take_iff_getElem
abbrev Ycz:=@Nat.zero_mul
abbrev YcA:=@List.eq_of_mem_replicate
abbrev YcB:=@List.drop_append
abbrev YcC:=@List.nodup_range
abbrev YcD:=@List.getElem_map
abbrev YcE:=@Nat.le_mul_of_pos_right
abbrev YcF:=@List.drop_eq_nil_of_le
abbrev YcG:=@List.drop_zero
abbrev YcH:=@Bool.false_and
abbrev YcI:=@Bool.not_false
abbrev YcJ:=@List.mapM_cons
abbrev YcK:=@Array.ext'
abbrev YcL:=@Nat.lt_irrefl
namespace Go.Eng
open Go.RowKit
inductive SV where
 | v (x:Value)
 | sb (c:Bool)
 | loc (i off:Nat)
structure Fr (own:Nat->Prop) (w w':World):Prop where
 os:w'.os=w.os
 tape:w'.tape=w.tape
 output:w'.output=w.output
 size:w.heap.size<=w'.heap.size
 block:∀k,k < w.heap.size->¬ own k->w'.heap[k]?=w.heap[k]?
theorem Fr.refl (own:Nat->Prop) (w:World):Fr own w w:=⟨rfl,rfl,rfl,Yax _,λ_ _ _=>rfl⟩
theorem Fr.below {w w':World} (h:Fr (λ_=>False) w w'):Below w.heap.size w w':=⟨h.os,h.tape,h.output,h.size,λk hk=>h.block k hk (λh=>h)⟩
inductive TK where
 | cell
 | bool
 | int (k:IntKind)
 | str
 | slice (e:TypeId)
 | struct (fs:List (Nat × Nat))
 | array (n:Nat) (e:TypeId)
 | iface
structure TI where
 agg:Bool
 size:Nat
 bytes:Nat
 zero:List Value
 kind:TK
abbrev Tab:=TypeId->Option TI
def Zqo:TypeDesc->Bool
 | .struct _ | .array _ _=>true
 | _=>false
def ZqR (P:Program) (d:TypeDesc):TK->Prop
 | .cell=>(match d with | .interface _=>False | _=>True)
 | .bool=>d=.bool
 | .int k=>d=.int k
 | .str=>d=.string
 | .slice e=>d=.slice e
 | .struct fs=>∃fields,d=.struct fields/\fields.size=fs.length/\∀(k off sz:Nat),fs[k]?=some (off,sz)->∃(f:Field) (inf:TypeInfo),fields[k]?=some f/\f.offset=off/\P.info? f.type=some inf/\inf.size=sz/\sz≠0
 | .array n e=>d=.array n e
 | .iface=>(match d with | .interface _=>True | _=>False)
structure InfoOk (P:Program) (t:TypeId) (i:TI):Prop where
 d:∃d,P.underlying t=some d/\ZqR P d i.kind/\Zqo d=i.agg
 inf:∃(inf:TypeInfo) (z:Value),P.info? t=some inf/\inf.size=i.size/\inf.bytes=i.bytes/\inf.zero=some z/\z.cells=i.zero.toArray
 zsize:i.zero.length=i.size
def TabOk (P:Program) (T:Tab):Prop:=∀t i,T t=some i->InfoOk P t i
def fnOk (P:Program) (g:FuncId):Bool :=
 match P.funcs[g]? with
 | some fn => !(fn.name == "runtime.NumGoroutine") && fn.body.isSome
 | none=>false
def ZrV (x c:Int):Prop:=IntKind.i64.wrap x=c
theorem ZrV.of {x:Int} (h0:-9223372036854775808<=x) (h1:x<=9223372036854775807):ZrV x x:=by unfold ZrV;rw[IntKind.wrap_i64];omega
def Ze7:List Value->Nat->List Value->List Value
 | l,_,[]=>l
 | l,k,v :: vs=>Ze7 (l.set k v) (k+1) vs
def Zkd (place:Nat->Option (Nat × Nat)):List Value->List (Nat × List Value)->Option (List Value)
 | cs,[]=>some cs
 | cs,(i,v) :: rest =>
  match place i with
  | none=>none
  | some (off,size)=>bif Nat.beq v.length size && Nat.ble (off+size) cs.length then Zkd place (Ze7 cs off v) rest else none
def ZaF (x:Value):List Value :=
 match x with
 | .agg cs=>cs.toList
 | x=>[x]
def flat:List Value->Bool
 | []=>true
 | v :: vs=>v.oneCell' && flat vs
def Zd9 (z:List Value):Nat->List Value
 | 0=>[]
 | n+1=>z++Zd9 z n
theorem Zes (x:Value):ZaF x=x.cells.toList:=by cases x<;>rfl
theorem Zm8 {w w':World} {b e sz n:Nat} {v:Value} {xs:List Value} (h:w.ownsRow b e sz v n xs) (hb:∀k,v.ownBlock=some k->w'.heap[k]?=w.heap[k]?):w'.ownsRow b e sz v n xs:=by
 refine ⟨h.1,?_⟩;rcases h.2 with hn | ⟨g,cap,cur,rfl,hg,hgg,rest⟩
 ·exact .inl hn
 ·exact .inr ⟨g,cap,cur,rfl,hg,(hb g rfl).trans hgg,rest⟩
section
variable {w w':World}
theorem Fr.alloc (G:Nat->Prop) (w:World) (o:Obj):Fr G w (w.alloc o) :=
 ⟨rfl,rfl,rfl,by simp,λk hk _=>Below.heap_alloc w o k hk⟩
theorem ZhH (w:World) (g:Nat) (cs:Array Value) (k:Nat) (h:k≠g):(w.setRow g cs).heap[k]?=w.heap[k]?:=by simp only[World.setRow,Array.getElem?_modify];rw[if_neg (λe=>h e.symm)]
theorem Fr.setRow (w:World) (g:Nat) (cs:Array Value):Fr (λk=>k=g) w (w.setRow g cs) :=
 ⟨rfl,rfl,rfl,by simp[World.setRow],λk _ hn=>ZhH w g cs k hn⟩
end
section
variable {w w':World}
theorem Zcm (b o j:Nat):(⟨b,o,none⟩:Addr).add j=⟨b,o+j,none⟩:=by unfold Addr.add;split<;>simp_all
theorem Zfx (a:Addr) (j:Nat):(a.add j).block=a.block:=by unfold Addr.add;split<;>rfl
theorem ZdH {P:Program} {t:TypeId} {i:TI} (hi:InfoOk P t i) (hagg:i.agg=false) {a:Addr} {v:Value} (hc:w.cell? a=some v):(loadVar t a).run P w=.ok v w:=by
 obtain ⟨d,hd,_,hda⟩:=hi.d;rw[hagg] at hda;have:(isAgg t).run P w=.ok false w:=by
  cases d<;>simp_all [isAgg,run_underlying hd,Zqo]
 simp[loadVar,this,hc]
theorem ZdI {P:Program} {t:TypeId} {i:TI} (hi:InfoOk P t i) (hagg:i.agg=true) {a:Addr} {vs:List Value} (hl:vs.length=i.size) (hc:∀j v,vs[j]?=some v->w.cell? (a.add j)=some v) :
  (loadVar t a).run P w=.ok (.agg vs.toArray) w:=by
 obtain ⟨d,hd,_,hda⟩:=hi.d;obtain ⟨inf,z,hinf,hsz,_⟩:=hi.inf;rw[hagg] at hda;have h1:(isAgg t).run P w=.ok true w:=by
  cases d<;>simp_all [isAgg,run_underlying hd,Zqo]
 have h2:(sizeOf t).run P w=.ok vs.length w:=by simp[sizeOf,typeInfo,hinf,hsz,hl]
 simp[loadVar,h1,h2,run_loadCells_list (P:=P) w a vs hc]
theorem Znl (vs:List Value):∀(l:List Value) (o:Nat),(Ze7 l o vs).length=l.length:=by
 induction vs with
 | nil=>intro l o;rfl
 | cons v vs ih=>intro l o;simp[Ze7,ih]
theorem Zlo (vs:List Value):∀(l:List Value) (o:Nat),o+vs.length<=l.length->Ze7 l o vs=l.take o++vs++l.drop (o+vs.length):=by
 induction vs with
 | nil=>intro l o h;simp[Ze7]
 | cons v vs ih =>
  intro l o h;simp only[List.length_cons] at h;rw[Ze7,ih (l.set o v) (o+1) (by simp;omega)];have h1:(l.set o v).take (o+1)=l.take o++[v]:=by rw[Ycd (by simp;omega)];simp[List.take_set_of_le]
  have h2:(l.set o v).drop (o+1+vs.length)=l.drop (o+(vs.length+1)):=by rw[List.drop_set_of_lt (by omega),show o+1+vs.length=o+(vs.length+1) from by omega]
  rw[h1,h2];simp[List.append_assoc,List.length_cons]
theorem Zrl (vs:List Value) (l:List Value) (m o:Nat) (hm:m<=l.length) (ho:o+vs.length<=m):(l.take o++vs++l.drop (o+vs.length)).take m=Ze7 (l.take m) o vs:=by
 rw[Zlo _ _ _ (by rw[Yan];omega)];rw[Ybu,Ybu,YbS,Nat.min_eq_right (by omega)];have e1:(l.take o).length=o:=by rw[Yan];omega
 have e2:vs.take (m - o)=vs:=YaJ (by omega);rw[e1,e2,YbS,Ybb (by omega),Yae,e1,Yco]
theorem ZwE:∀{l:List Value},flat l=true->∀v∈l,v.oneCell'=true:=by
 intro l
 induction l with
 | nil=>intro _ v hv;simp at hv
 | cons a l ih =>
  intro h v hv;simp only[flat,Yaf] at h;rcases Yav.1 hv with rfl | hv
  ·exact h.1
  ·exact ih h.2 v hv
theorem Zji {P:Program} {t:TypeId} {i:TI} (hi:InfoOk P t i) {y:Value} (hl:(ZaF y).length=i.size) (hf:flat (ZaF y)=true) {g o:Nat} {cur:Array Value} {t':TypeId}
  (hg:w.heap[g]?=some (.cells cur t' (0,0))) (hfit:o+(ZaF y).length<=cur.size) :
  (storeVar t ⟨g,o,none⟩ y).run P w=.ok () (w.setRow g (cur.toList.take o++ZaF y++cur.toList.drop (o+(ZaF y).length)).toArray):=by
 obtain ⟨inf,z,hinf,hsz,_⟩:=hi.inf;have hs:y.cells.size=inf.size:=by rw[Zes] at hl;simpa [hsz] using hl
 have:=run_storeCells_at (P:=P) g o t' (ZaF y) 0 cur w hg (by simpa using hfit) (ZwE hf);rw[Zes] at this;simp only[Nat.add_zero] at this;rw[Zes];simp[storeVar,sizeOf,typeInfo,hinf,hs,this]
theorem Zc4 {P:Program} {T:Tab} (hT:TabOk P T) {s f off sz:Nat} {i:TI} {fs:List (Nat × Nat)} (hs:T s=some i) (hk:i.kind=.struct fs) (hf:fs[f]?=some (off,sz)) (a:Addr) (w:World) :
  (Instr.fieldAt s (.pointer (some a)) f).run P w=.ok (.pointer (some (a.add off))) w:=by obtain ⟨d,hd,hdk,_⟩:=(hT s i hs).d;rw[hk] at hdk;obtain ⟨fields,rfl,_,hfs⟩:=hdk;obtain ⟨fd,inf,hfd,rfl,hinf,rfl,hne⟩:=hfs f off sz hf;simp[Instr.fieldAt,run_underlying hd,hfd,Instr.sureAddr,fieldPlace,sizeOf,typeInfo,hinf,hne]
theorem Zdb {P:Program} {T:Tab} (hT:TabOk P T) {t e:TypeId} {i ei:TI} (hs:T t=some i) (hk:i.kind=.slice e) (he:T e=some ei) (b:Addr) (n c j:Nat) (hj:j < n) (w:World) :
  (Instr.indexAt t (.slice (some b) n c) (.int .i64 (j:Int))).run P w=.ok (.pointer (some (b.add (j*ei.size)))) w:=by
 obtain ⟨d,hd,hdk,_⟩:=(hT t i hs).d;rw[hk] at hdk;have hdk:d=.slice e:=hdk;subst hdk;obtain ⟨inf,z,hinf,hsz,_⟩:=(hT e ei he).inf;have h1:(0:Int)<=(j:Int)/\(j:Int) < (n:Int):=by omega
 simp[Instr.indexAt,run_underlying hd,asIntOf,sizeOf,typeInfo,hinf,hsz,hj]
theorem ZdJ {P:Program} {T:Tab} (hT:TabOk P T) {t e:TypeId} {i ei:TI} {n:Nat} (hs:T t=some i) (hk:i.kind=.array n e) (he:T e=some ei) (b:Addr) (j:Nat) (hj:j < n) (w:World) :
  (Instr.indexAt t (.pointer (some b)) (.int .i64 (j:Int))).run P w=.ok (.pointer (some (b.add (j*ei.size)))) w:=by obtain ⟨d,hd,hdk,_⟩:=(hT t i hs).d;rw[hk] at hdk;have hdk:d=.array n e:=hdk;subst hdk;obtain ⟨inf,z,hinf,hsz,_⟩:=(hT e ei he).inf;simp[Instr.indexAt,run_underlying hd,asIntOf,Instr.sureAddr,sizeOf,typeInfo,hinf,hsz,hj]
theorem Zej {P:Program} {T:Tab} (hT:TabOk P T) {t e:TypeId} {i:TI} (hs:T t=some i) (hk:i.kind=.slice e) (a:Option Addr) (n c:Nat) (ty:TypeId) (w:World) :
  (Builtin.len_ #[t] ty #[.slice a n c]).run P w=.ok (.int .i64 (n:Int)) w:=by obtain ⟨d,hd,hdk,_⟩:=(hT t i hs).d;rw[hk] at hdk;have hdk:d=.slice e:=hdk;subst hdk;simp[Builtin.len_,run_underlying hd,goInt]
theorem ZoK {P:Program} {T:Tab} (hT:TabOk P T) {t:TypeId} {i:TI} (hs:T t=some i) (hk:i.kind=.str) (s:ByteArray) (ty:TypeId) (w:World) :
  (Builtin.len_ #[t] ty #[.string s]).run P w=.ok (.int .i64 (s.data.toList.length:Int)) w:=by obtain ⟨d,hd,hdk,_⟩:=(hT t i hs).d;rw[hk] at hdk;have hdk:d=.string:=hdk;subst hdk;show _=Result.ok (Value.int .i64 ((s.size:Nat):Int)) w;simp[Builtin.len_,run_underlying hd,goInt]
theorem Zuq (place:Nat->Option (Nat × Nat)):∀(parts:List (Nat × Value)) (cs out:List Value),Zkd place cs (parts.map λp=>(p.1,ZaF p.2))=some out->Instr.fill place cs.toArray parts=some out.toArray:=by
 intro parts
 induction parts with
 | nil=>intro cs out h;simp[Zkd] at h;subst h;rfl
 | cons p rest ih =>
  intro cs out h;obtain ⟨k,v⟩:=p;simp only[Yar,Zkd] at h;cases hp:place k with
  | none=>rw[hp] at h;cases h
  | some q =>
   obtain ⟨off,size⟩:=q;rw[hp] at h;simp only at h;cases hb:Nat.beq (ZaF v).length size && Nat.ble (off+size) cs.length with
   | false=>rw[hb] at h;cases h
   | true =>
    rw[hb] at h;simp only[Yaf] at hb;have h1:(ZaF v).length=size:=Yap hb.1;have h2:off+size<=cs.length:=Yaw hb.2;have h:=ih _ _ h;simp only[Instr.fill,hp];have hsz:v.cells.size=size:=by rw[Zes] at h1;simpa using h1
    rw[if_neg (by simp[hsz];omega)];rw[<- h]
    congr 1
    rw[Zes];have key:∀(vs:List Value) (o:Nat) (l:List Value),(vs.zipIdx o).foldl (fun (a:Array Value) (x:Value × Nat)=>a.setIfInBounds (off+x.2) x.1) l.toArray=(Ze7 l (off+o) vs).toArray:=by
     intro vs
     induction vs with
     | nil=>intro o l;rfl
     | cons u us ih2 =>intro o l;simp only[List.zipIdx_cons,List.foldl_cons,List.setIfInBounds_toArray,Ze7];rw[ih2 (o+1) (l.set (off+o) u)];rfl
    have:=key v.cells.toList 0 cs;rw[<- Array.foldl_toList,Array.toList_zipIdx];simpa using this
theorem ZmT {P:Program} {T:Tab} (hT:TabOk P T) {t:TypeId} {i:TI} {fs:List (Nat × Nat)} (hs:T t=some i) (hk:i.kind=.struct fs) (parts:Array (Nat × Value)) (out:List Value)
  (h:Zkd (fs[·]?) i.zero (parts.toList.map λp=>(p.1,ZaF p.2))=some out) (w:World) :
  (Instr.build t parts).run P w=.ok (.agg out.toArray) w:=by
 obtain ⟨d,hd,hdk,_⟩:=(hT t i hs).d;rw[hk] at hdk;obtain ⟨fields,rfl,hlen,hfs⟩:=hdk;obtain ⟨inf,z,hinf,_,_,hz,hzc⟩:=(hT t i hs).inf;have hm:(fields.mapM (m:=Sem) λf=>do pure (f.offset,<- sizeOf f.type)).run P w=.ok fs.toArray w:=by
  have key:∀(l:List Field) (gs:List (Nat × Nat)),l.length=gs.length->(∀(k off sz:Nat),gs[k]?=some (off,sz)->∃(f:Field) (inf:TypeInfo),l[k]?=some f/\f.offset=off/\P.info? f.type=some inf/\inf.size=sz/\sz≠0) ->
    (l.mapM (m:=Sem) λf=>do pure (f.offset,<- sizeOf f.type)).run P w=.ok gs w:=by
   intro l
   induction l with
   | nil=>intro gs hg _;cases gs with | nil=>rfl | cons a b=>simp at hg
   | cons f l ih =>
    intro gs hg hh;cases gs with
    | nil=>simp at hg
    | cons a b =>obtain ⟨off,sz⟩:=a;obtain ⟨f',inf',hf',rfl,hinf',rfl,_⟩:=hh 0 off sz rfl;simp at hf';subst hf';have:=ih b (by simpa using hg) (λk off sz hk=>by simpa using hh (k+1) off sz (by simpa using hk));simp only[YcJ,Sem.run_bind,sizeOf,typeInfo,run_program,Result.andThen_ok,hinf',Sem.run_pure];simp only[sizeOf,typeInfo] at this;rw[this];rfl
  have:=key fields.toList fs (by simpa using hlen) (λk off sz hk=>by simpa using hfs k off sz hk);rw[Ycw,Sem.run_map,this];rfl
 have hfill:=Zuq (fs[·]?) parts.toList i.zero out h;simp only[Instr.build,Sem.run_bind,zeroValue,typeInfo,run_program,Result.andThen_ok,hinf,Sem.run_pure,hz,run_underlying hd,hm,hzc];have hfill':Instr.fill (λx=>fs.toArray[x]?) i.zero.toArray parts.toList=some out.toArray:=by
  rw[<- hfill]
  congr 1
  funext x;simp
 rw[hfill'];rfl
end
theorem ZeH (z:List Value):∀n,(Zd9 z n).length=n*z.length:=by
 intro n
 induction n with
 | zero=>simp[Zd9]
 | succ n ih=>simp[Zd9,ih,Nat.succ_mul,Nat.add_comm]
theorem Znx (z:List Value) (_hz:0 < z.length):∀(n j:Nat),j < n*z.length->(Zd9 z n)[j]?=z[j % z.length]?:=by
 intro n
 induction n with
 | zero=>intro j h;simp at h
 | succ n ih =>
  intro j h;rw[Zd9];by_cases hj:j < z.length
  ·rw[Yaj hj,Nat.mod_eq_of_lt hj]
  ·rw[Yak (by omega),ih (j - z.length) (by rw[YaY] at h;omega),<- Nat.mod_eq_sub_mod (by omega)]
theorem Zju (z:List Value) (hz:0 < z.length) (n:Nat):(Array.range (n*z.length)).map (λi=>z.toArray[i % z.toArray.size]!)=(Zd9 z n).toArray:=by
 apply YcK;apply YbD;intro j;by_cases hj:j < n*z.length
 ·show _=(Zd9 z n)[j]?;rw[Znx z hz n j hj];have hm:j % z.length < z.length:=Nat.mod_lt _ hz;simp[hj,hm]
 ·have h1:(Zd9 z n)[j]?=none:=Ybs (by rw[ZeH];omega);simp[h1];omega
theorem ZnJ (place:Nat->Option (Nat × Nat)):∀(parts:List (Nat × List Value)) (cs out:List Value),Zkd place cs parts=some out->out.length=cs.length:=by
 intro parts
 induction parts with
 | nil=>intro cs out h;simp[Zkd] at h;subst h;rfl
 | cons p rest ih =>
  intro cs out h;obtain ⟨k,v⟩:=p;simp only[Zkd] at h;cases hp:place k with
  | none=>rw[hp] at h;cases h
  | some q =>
   obtain ⟨off,size⟩:=q;rw[hp] at h;simp only at h;cases hb:Nat.beq v.length size && Nat.ble (off+size) cs.length with
   | false=>rw[hb] at h;cases h
   | true=>rw[hb] at h;rw[ih _ _ h,Znl]
section
variable {w w':World}
theorem Zd8 {P:Program} (l y:Nat) (code:BoundsCode) (h:l<=y):(Instr.sliceBound (.int .i64 (l:Int)) y code).run P w=.ok l w:=by
 have h1:(0:Int)<=(l:Int)/\(l:Int)<=(y:Int):=by omega
 simp[Instr.sliceBound,asIntOf,h]
theorem ZfG {P:Program} (b:Bool) (len cap l h:Nat) (lo hi:Option Value) (hlo:match lo with | none=>l=0 | some p=>p=.int .i64 (l:Int)) (hhi:match hi with | none=>h=len | some p=>p=.int .i64 (h:Int))
  (hl:l<=h) (hc:h<=cap):(Instr.sliceBounds b len cap lo hi none).run P w=.ok (l,h,cap) w:=by
 cases lo with
 | none =>
  cases hi with
  | none=>simp only at hlo hhi;subst hlo;subst hhi;simp[Instr.sliceBounds]
  | some q=>simp only at hlo hhi;subst hlo;subst hhi;cases b<;>simp[Instr.sliceBounds,Zd8,hc]
 | some p =>
  cases hi with
  | none=>simp only at hlo hhi;subst hlo;subst hhi;simp[Instr.sliceBounds,Zd8,hl]
  | some q=>simp only at hlo hhi;subst hlo;subst hhi;cases b<;>simp[Instr.sliceBounds,Zd8,hc,hl]
theorem ZnK (s:ByteArray) (l h:Nat) (_hh:h<=s.data.toList.length):s.extract l h=⟨⟨(s.data.toList.take h).drop l⟩⟩:=by
 have:(s.extract l h).data=(⟨(s.data.toList.take h).drop l⟩:Array UInt8):=by rw[ByteArray.data_extract];apply YcK;simp[Array.toList_extract,List.extract_eq_take_drop,List.drop_take]
 cases hs:s.extract l h with
 | mk d=>rw[hs] at this;simp only at this;rw[this]
end
def Zbj (P:Program) (next:Value->World->Prop) (qp:List PanicEntry->World->Prop):Result Next->Prop
 | .ok (.value v) w'=>next v w'
 | .ok .skip w'=>next undef w'
 | .ok (.enter f args) w'=>Calls P f args w' fun
   | .returned v,w''=>next v w''
   | .panicked ch,w''=>qp ch w''
   | .outgrown,_=>False
 | .halt (.panic v) w'=>qp [{ v,recovered:=false }] w'
 | _=>False
theorem Zbj.wp {P:Program} {o:Oper} {a:Act} {w:World} {next:Act->World->Prop} {Q:Exit->Act->World->Prop}
  (h:Zbj P (λv w'=>next (a.put o.dst v) w') (λch w'=>Q (.panic ch) a w') ((execOp a.eval o).run P w)):o.wp P a w next Q:=by
 unfold Oper.wp;revert h;cases (execOp a.eval o).run P w with
 | ok x w' =>
  cases x<;>intro h<;>try exact h.elim
  ·exact h
  ·exact h
  ·refine h.mono λe w'' he=>?_;cases e with
   | returned v=>exact he
   | panicked ch=>exact he
   | outgrown=>exact he.elim
 | halt x w' =>
  cases x<;>intro h<;>first | exact h.elim | exact h
section
variable {P:Program} {T:Tab} {F:FuncId->Bool} {n:Nat} {a:Act} {w:World} {next:Value->World->Prop} {qp:List PanicEntry->World->Prop}
end
section
variable {P:Program} {T:Tab} {F:FuncId->Bool} {n:Nat} {a:Act} {w:World} {next:Value->World->Prop} {qp:List PanicEntry->World->Prop}
theorem run_v {o:Oper} {ρ:Operand->Value} {x:Sem Value} {v:Value} {w':World} (he:execOp ρ o=(do pure (.value (<- x)))) (h:x.run P w=.ok v w'):(execOp ρ o).run P w=.ok (.value v) w':=by rw[he,Sem.run_bind,h];rfl
theorem Zxn (s t:ByteArray):(s.toList == t.toList)=decide (s.data.toList=t.data.toList):=by
 rw[ByteArray.toList_eq,ByteArray.toList_eq];by_cases hd:s.data.toList=t.data.toList
 ·simp[hd]
 ·have hd':¬ s.data=t.data:=λe=>hd (by rw[e]);simp[hd']
theorem Zx8 (s t:ByteArray):s++t=⟨⟨s.data.toList++t.data.toList⟩⟩:=by
 have h:(s++t).data=(⟨s.data.toList++t.data.toList⟩:Array UInt8):=by apply YcK;simp
 cases hs:s++t with
 | mk d=>rw[hs] at h;simp only at h;rw[h]
end
section
variable {P:Program} {T:Tab} {F:FuncId->Bool} {n:Nat} {a:Act} {w:World} {next:Value->World->Prop} {qp:List PanicEntry->World->Prop}
end
theorem ZcR {i d:Nat} (h:i≠d):Nat.beq i d=false:=by
 cases h':Nat.beq i d with
 | false=>rfl
 | true=>exact absurd (Yap h') h
section
variable {P:Program} {T:Tab} {F:FuncId->Bool} {n:Nat}
def Zu6 (P:Program) (ops:Array Oper) (o:Oper) (a:Act) (w:World) (next:Act->World->Prop) (Q:Exit->Act->World->Prop):Prop :=
 if Region.wanted o (yielded ops a.tmps)=true then o.wp P a w next Q else next (a.put o.dst undef) w
end
def eqV:Value->Value->Bool
 | .int k a,.int k' b=>decide (k=k') && decide (a=b)
 | .bool a,.bool b=>a == b
 | .string a,.string b=>a.data.toList == b.data.toList
 | .slice none n c,.slice none n' c'=>n == n' && c == c'
 | .pointer none,.pointer none=>true
 | .map none,.map none=>true
 | .chan none,.chan none=>true
 | .nilFunc,.nilFunc=>true
 | .nilIface,.nilIface=>true
 | _,_=>false
theorem ZA5 {a b:Value} (h:eqV a b=true):a=b:=by
 unfold eqV at h;split at h<;>first | (cases h;done) | rfl | skip
 ·simp only[Yaf,decide_eq_true_eq] at h;rw[h.1,h.2]
 ·rw[eq_of_beq h]
 ·rename_i s t;have:s=t:=by cases s;cases t;rename_i x y;have:=eq_of_beq h;simp at this;rw[this]
  rw[this]
 ·simp only[Yaf,beq_iff_eq] at h;rw[h.1,h.2]
def ZBF:List Value->List Value->Bool
 | [],[]=>true
 | a :: l,b :: m=>eqV a b && ZBF l m
 | _,_=>false
theorem Zzg:∀{a b:List Value},ZBF a b=true->a=b:=by
 intro a
 induction a with
 | nil=>intro b h;cases b with | nil=>rfl | cons x y=>cases h
 | cons x l ih =>
  intro b h;cases b with
  | nil=>cases h
  | cons y m=>simp only[ZBF,Yaf] at h;rw[ZA5 h.1,ih h.2]
def ZeN (P:Program):List Field->List (Nat × Nat)->Bool
 | [],[]=>true
 | f :: fs,(off,sz) :: l=>f.offset == off && (match P.info? f.type with | some inf=>inf.size == sz | none=>false) && !(sz == 0) && ZeN P fs l
 | _,_=>false
theorem Zkf {P:Program}:∀{fs:List Field} {l:List (Nat × Nat)},ZeN P fs l=true->fs.length=l.length/\∀(k off sz:Nat),l[k]?=some (off,sz)->∃(f:Field) (inf:TypeInfo),fs[k]?=some f/\f.offset=off/\P.info? f.type=some inf/\inf.size=sz/\sz≠0:=by
 intro fs
 induction fs with
 | nil=>intro l h;cases l with | nil=>exact ⟨rfl,λk off sz hk=>by simp at hk⟩ | cons x y=>cases h
 | cons f fs ih =>
  intro l h;cases l with
  | nil=>cases h
  | cons p l =>
   obtain ⟨off,sz⟩:=p;simp only[ZeN,Yaf,beq_iff_eq,YaN,beq_eq_false_iff_ne] at h;obtain ⟨⟨⟨h1,h2⟩,h3⟩,h4⟩:=h;obtain ⟨hl,hh⟩:=ih h4;refine ⟨by simp[hl],λk o s hk=>?_⟩;cases k with
   | zero =>
    simp at hk;obtain ⟨rfl,rfl⟩:=hk;cases hi:P.info? f.type with
    | none=>rw[hi] at h2;cases h2
    | some inf=>rw[hi] at h2;exact ⟨f,inf,rfl,h1,hi,eq_of_beq h2,h3⟩
   | succ k=>exact hh k o s (by simpa using hk)
def Zjy (P:Program):TypeDesc->TK->Bool
 | .interface _,.iface=>true
 | .interface _,_=>false
 | .bool,.bool=>true
 | .int k,.int k'=>decide (k=k')
 | .string,.str=>true
 | .slice e,.slice e'=>e == e'
 | .struct fs,.struct l=>ZeN P fs.toList l
 | .array n e,.array n' e'=>n == n' && e == e'
 | _,.cell=>true
 | _,_=>false
theorem Znp {P:Program} {d:TypeDesc} {k:TK} (h:Zjy P d k=true):ZqR P d k:=by
 unfold Zjy at h;split at h<;>first | (cases h;done) | skip
 ·trivial
 ·rfl
 ·rw[of_decide_eq_true h];rfl
 ·rfl
 ·rw[eq_of_beq h];rfl
 ·rename_i fs l;obtain ⟨h1,h2⟩:=Zkf h;exact ⟨fs,rfl,by simpa using h1,λk off sz hk=>by simpa using h2 k off sz hk⟩
 ·simp only[Yaf,beq_iff_eq] at h;rw[h.1,h.2];rfl
 ·unfold ZqR;split<;>first | trivial | simp_all
def Zjz (P:Program) (t:TypeId) (i:TI):Bool :=
 match P.underlying t,P.info? t with
 | some d,some inf=>Zjy P d i.kind && inf.size == i.size && inf.bytes == i.bytes && (match inf.zero with | some z=>ZBF z.cells.toList i.zero | none=>false) && (Zqo d == i.agg) && (i.zero.length == i.size)
 | _,_=>false
theorem Zns {P:Program} {t:TypeId} {i:TI} (h:Zjz P t i=true):InfoOk P t i:=by
 unfold Zjz at h;split at h
 ·rename_i d inf hd hi;simp only[Yaf,beq_iff_eq] at h;obtain ⟨⟨⟨⟨⟨h1,h2⟩,h3⟩,h4⟩,h5⟩,h6⟩:=h;cases hz:inf.zero with
  | none=>rw[hz] at h4;cases h4
  | some z =>rw[hz] at h4;exact ⟨⟨d,hd,Znp h1,h5⟩,⟨inf,z,hi,h2,h3,hz,by rw[<- Zzg h4]⟩,h6⟩
 ·cases h
def lookT:List (TypeId × TI)->Tab
 | [],_=>none
 | p :: l,t=>bif Nat.beq p.1 t then some p.2 else lookT l t
def tabCheck (P:Program) (L:List (TypeId × TI)):Bool:=L.all λp=>Zjz P p.1 p.2
theorem tabCheck_ok {P:Program} {L:List (TypeId × TI)} (h:tabCheck P L=true):TabOk P (lookT L):=by
 induction L with
 | nil=>intro t i ht;cases ht
 | cons p l ih =>
  unfold tabCheck at h;simp only[List.all_cons,Yaf] at h;intro t i ht;unfold lookT at ht;cases hb:Nat.beq p.1 t with
  | true =>rw[hb] at ht;have he:=Yap hb;injection ht with ht;subst ht;subst he;exact Zns h.1
  | false=>rw[hb] at ht;exact ih h.2 t i ht
def fnsIn (lo N:Nat) (g:Nat):Bool:=Nat.ble lo g && Nat.blt g N
def fnsCheck (P:Program) (lo:Nat):Nat->Bool
 | 0=>true
 | N+1=>(Nat.blt N lo || fnOk P N) && fnsCheck P lo N
theorem fns_ok {P:Program} {lo N:Nat} (h:fnsCheck P lo N=true):∀g:Nat,fnsIn lo N g=true->fnOk P g=true:=by
 induction N with
 | zero=>intro g hg;simp[fnsIn,Nat.blt] at hg
 | succ N ih =>
  intro g hg;simp only[fnsCheck,Yaf,YaV] at h;simp only[fnsIn,Yaf] at hg;have h1:=Yaw hg.1;have h2:g < N+1:=Yaw hg.2;by_cases hgn:g=N
  ·subst hgn;rcases h.1 with h3 | h3
   ·have:g < lo:=Yaw h3;omega
   ·exact h3
  ·exact ih h.2 g (by simp only[fnsIn,Yaf];exact ⟨hg.1,Ybr (by omega)⟩)
def Zv2:List Value->Value
 | [v]=>v
 | vs=>.tuple vs.toArray
section
variable {P:Program} {T:Tab} {F:FuncId->Bool} {n:Nat}
end
end Go.Eng

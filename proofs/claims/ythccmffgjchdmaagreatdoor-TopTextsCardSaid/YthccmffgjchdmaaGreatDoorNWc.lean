import Derived.Test.YthccmffgjchdmaaGreatDoorNLb
import Derived.Test.YthccmffgjchdmaaGreatDoorNVs
import Derived.Test.YthccmffgjchdmaaGreatDoorNWd
import Derived.Shelf.Strings.OnBuilder
import Derived.Shelf.Strings.Builder1
open Go Go.Proofs Go.Proofs.YthccmffgjchdmaaGreatDoor
namespace ZN
open Go Go.Dm Go.Eng Go.RowKit Go.Shelf Barb
variable {L:Lv}
theorem ZC9 {V:Nat->Prop} {w:World} {n:Int} {aa:List Value} (h:Zaa [] (λ_=>undef) V w [.g (.int n)] aa):aa=[.int .i64 n]:=by simp only[Zaa] at h;obtain ⟨v,us,rfl,hv,rfl⟩:=h;simp only[Zab,ZaS] at hv;rw[hv]
theorem Zru (n:Nat) (h:n<=65535):CT Tryz.prog (gl L) 16 [.g (.int (n:Int))] (Is (.g (.str (Lib.decDigits n)))):=by refine Zhs λw V aa hG hr=>?_;rw[ZC9 hr];refine (Zpm n (by omega) (by omega) w (Znz hG).tab).mono λe w' ⟨he,hb⟩=>⟨_,he,hb,?_⟩;rw[Lib.itoa_nonneg];simp only[Zab,ZaS]
variable {L:Lv}
def Zd9 : Go.Shelf.Ren := ⟨fun | 156 => 17 | 165 => 41 | 166 => 15 | 169 => 19 | 240 => 39 | 241 => 68 | 276 => 66 | 277 => 100 | n => n, fun | 31 => 33 | 9 => 9 | 3 => 3 | 4 => 4 | 0 => 0 | 20 => 20 | 72 => 61 | 76 => 64 | 70 => 58 | 37 => 59 | 75 => 63 | 127 => 116 | 164 => 155 | 5 => 5 | 80 => 74 | n => n, fun | n => n⟩
theorem ZiY : Go.Proofs.Lays.n156 Tryz.prog Zd9 := by
  repeat' first | kernel_rfl | (intro w; kernel_rfl) | (intro w; rfl) | constructor
theorem Zhl:Builder.Extra Tryz.prog Zd9 where
 sizeBuilder:=by kernel_rfl
 liesBuilder:=by kernel_rfl
 t5:=ZfE.t5
 a5:=run_isAgg_plain ZfE.t5 rfl
 z5:=ZfE.z5
 v5:=ZfE.v5
 infoByte:=by kernel_rfl
 cellsByte:=by kernel_rfl
 sizeByte:=by kernel_rfl
 neB5:=by decide
theorem ZtG {V:Nat->Prop} {w:World} {a:Addr}:∀(l:List Str) (i:Nat),ZaB V w 1 a i (l.map ZaT)->∀(j:Nat) (s:Str),l[j]?=some s->w.cell? (a.add (i+j))=some (.string ⟨⟨s⟩⟩)
 | [],_,_,j,s,h=>by simp at h
 | u :: l,i,h,j,s,hj=>by
  simp only[Yan,ZaB,ZaT,Zav,ZaS] at h;obtain ⟨⟨_,⟨⟨v,hc,rfl⟩,_⟩⟩,hr⟩:=h;cases j with
  | zero =>simp only[List.getElem?_cons_zero,Ybg] at hj;subst hj;simpa using hc
  | succ j =>have:=ZtG l (i+1) hr j s (by simpa using hj);rw[show i+(j+1)=i+1+j from by omega];exact this
theorem Zrt (l:List Str) (sep:Str) (hn:l.length<=140737488355328) (hl:(Lib.join l sep).length<=140737488355328):CT Tryz.prog (gl L) 17 [.g (.sl 1 (l.map ZaT)),.g (.str sep)] (Is (.g (.str (Lib.join l sep)))):=by
 refine Zhs λw V aa hG hr=>?_;simp only[Zaa] at hr;obtain ⟨v,us,rfl,hv,v2,uF,rfl,cu,rfl⟩:=hr;simp only[Zab,ZaS] at hv cu;subst cu;obtain ⟨A,cap,rfl,ki,aF,hz⟩:=hv;have e:(l.map (λs=>(⟨⟨s⟩⟩:ByteArray))).map (·.data.toList)=l:=by rw[YbL];exact List.map_id' l
 cases l with
 | nil =>refine (Any.strings_Join_none ZiY Zhl A cap ⟨⟨sep⟩⟩ w).mono λe w' ⟨he,hw⟩=>⟨_,he,hw▸Below.refl _ _,?_⟩;simp only[Zab,ZaS];rfl
 | cons x l =>
  obtain ⟨a,rfl,_,av⟩:=aF (by simp);have hc:=ZtG (x :: l) 0 av;have h0:=hc 0 x rfl;obtain ⟨b,o,sp⟩:=a;have vD:sp=none:=by
   rw[Addr.add,if_pos rfl] at h0;unfold World.cell? at h0;cases sp with
   | none=>rfl
   | some k=>split at h0<;>simp at h0
  subst vD;have hb:b < w.heap.size:=World.block_lt_of_cell? w _ (by rw[Addr.add,if_pos rfl] at h0;exact h0);have hJ:=Any.strings_Join ZiY Zhl b o cap ((x :: l).map (λs=>(⟨⟨s⟩⟩:ByteArray))) ⟨⟨sep⟩⟩ w (λj y hj=>by
   simp only[YaE,YaB] at hj;obtain ⟨s,hs,rfl⟩:=hj;have:=hc j s hs;rw[YaA,Zb8] at this;exact this) hb (by rw[Yaa];exact hn) (by simpa using ki) (by rw[e];exact hl)
  rw[e] at hJ;simp only[Yaa] at hJ ⊢;refine hJ.mono λe w' ⟨he,hw⟩=>⟨_,he,hw,?_⟩;simp only[Zab,ZaS]
section
variable {P:Program} {ρ:Ren}
theorem ZzY (w:World) (t u ty e:TypeId) (i:TypeInfo) (ht:P.underlying t=some (.slice e)) (hu:P.underlying u=some .string) (hi:P.info? e=some i) (hz:i.zero=some (.int .u8 0))
  (eD:i.size=1) (jB:i.bytes=1) (v:Value) (n:Nat) (xs:List Value) (ak:w.ownsRow 0 e 1 v n xs) (s:ByteArray) (pr:n+s.size<=maxLen) (fP:n+s.size<=140737488355328) :
  ∃v' w',(Builtin.append_ #[t,u] ty #[v,.string s]).run P w=.ok v' w'/\w'.ownsRow 0 e 1 v' (n+s.size) (xs++Lib.strCells s)/\w.grownBy w' v.ownBlock/\(v'.ownBlock=v.ownBlock\/v'.ownBlock=some w.heap.size):=by
 obtain ⟨v',w',hr,h2,h3,h4⟩:=Lib.run_append_own_string (P:=P) w 0 t u ty e i ht hu hi hz eD jB v n xs ak s pr fP (Yat _);refine ⟨v',w',hr,h2,h3,?_⟩;have qK:n+s.size<=9223372036854775807:=by omega
 rcases ak.2 with ⟨rfl,rfl⟩ | ⟨g,cap,cur,rfl,yz,hg,dH,iu,aU,kD⟩
 ·by_cases hm:s.size=0
  ·rw[h4.2 ⟨rfl,hm⟩];exact .inl rfl
  ·rw[run_append_nil_string (P:=P) w t u ty e i (.int .u8 0) ht hu hi hz s (by omega) (by omega) (by rw[jB];omega)] at hr;injection hr with e1 _;rw[<- e1];exact .inr rfl
 ·have fj:xs.length=n:=by simpa using ak.1
  by_cases aK:n+s.size<=cap
  ·rw[Lib.run_append_room_string (P:=P) w t u ty e i ht hu hi eD g n cap cur hg s aK (by omega)] at hr;injection hr with e1 _;rw[<- e1];exact .inl rfl
  ·have holds:∀j u,xs[j]?=some u->w.cell? ((⟨g,0,none⟩:Addr).add j)=some u:=ak.cells (g:=g) rfl;rw[Lib.run_append_grow_string (P:=P) w t u ty e i (.int .u8 0) ht hu hi hz ⟨g,0,none⟩ n cap xs (by rw[eD];simpa using fj) holds s (by omega) (by omega) (by rw[jB];exact growslice_fits (by omega) (by omega))] at hr;injection hr with e1 _;rw[<- e1];exact .inr rfl
theorem Zkt {w:World} {ops:Array Oper} {rest:List Oper} {o:Oper} {a:Act} {Q:Exit->Act->World->Prop} (dv:o.guard=none) (sl x:Operand) (t u:TypeId)
  (ho:o.op=.call { callee:=.builtin .append,args:=#[sl,x],argTypes:=#[t,u] }) (e:TypeId) (i:TypeInfo) (ht:P.underlying t=some (.slice e)) (hu:P.underlying u=some .string) (hi:P.info? e=some i) (hz:i.zero=some (.int .u8 0))
  (eD:i.size=1) (jB:i.bytes=1) (v:Value) (n:Nat) (xs:List Value) (hs:a.eval sl=v) (ak:w.ownsRow 0 e 1 v n xs) (s:ByteArray) (hx:a.eval x=.string s) (pr:n+s.size<=maxLen) (fP:n+s.size<=140737488355328)
  (h:∀v' w',w'.ownsRow 0 e 1 v' (n+s.size) (xs++Lib.strCells s)->w.grownBy w' v.ownBlock->(v'.ownBlock=v.ownBlock\/v'.ownBlock=some w.heap.size)->wpList P ops Q rest (a.put o.dst v') w'):wpList P ops Q (o :: rest) a w:=by refine wpList_plain dv λK hK=>?_;obtain ⟨v',w',hr,h2,h3,h4⟩:=ZzY (P:=P) w t u o.type e i ht hu hi hz eD jB v n xs ak s pr fP;unfold Oper.wp execOp;simp only[ho,resolve,invoke,builtin,Sem.run_bind,Sem.run_pure,Result.andThen_ok,List.map_toArray,Yan,YaI,hs,hx,hr];exact hK _ _ (h v' w' h2 h3 h4)
theorem ZsO (L:Lays.n166 P ρ) (X:Builder.Extra P ρ) (b:Nat) (p v:Value) (bs:List Value) (s:ByteArray) (w:World) (hp:p=.pointer none\/p=.pointer (some ⟨b,0,none⟩))
  (bm:w.heap[b]?=some (.cells #[p,v] (ρ.t 72) (0,0))) (ak:w.ownsRow 0 (ρ.t 5) 1 v bs.length bs) (aC:v.ownBlock≠some b) (hlen:bs.length+s.size<=140737488355328) :
  Calls P (ρ.f 166) #[.pointer (some ⟨b,0,none⟩),.string s] w λe w'=>e=.returned (.tuple #[.int .i64 s.size,.nilIface]) /\
   ∃w1 v' w2,(w1=w/\p=.pointer (some ⟨b,0,none⟩)\/w1=w.setCell ⟨b,0,none⟩ (.pointer (some ⟨b,0,none⟩)))/\w2.ownsRow 0 (ρ.t 5) 1 v' (bs.length+s.size) (bs++Lib.strCells s)/\w1.grownBy w2 v.ownBlock /\
    (v'.ownBlock=v.ownBlock\/v'.ownBlock=some w1.heap.size)/\w'=w2.setCell ⟨b,1,none⟩ v':=by
 obtain ⟨i0,hi,fi,vf,sZ⟩:=info_parts X.infoByte;have mixed:=L.mixed;have t72:=L.t72;have a72:=L.a72;have z72:=L.z72;have v72:=L.v72;have uG:=run_underlying L.t72;have t70:=L.t70;have a70:=L.a70;have z70:=L.z70;have v70:=L.v70;have uH:=run_underlying L.t70;have t37:=L.t37;have a37:=L.a37;have z37:=L.z37;have v37:=L.v37;have uI:=run_underlying L.t37;have t3:=L.t3;have a3:=L.a3;have z3:=L.z3;have v3:=L.v3;have u3:=run_underlying L.t3;have t9:=L.t9;have a9:=L.a9;have z9:=L.z9;have v9:=L.v9;have u9:=run_underlying L.t9;have t4:=L.t4;have a4:=L.a4;have z4:=L.z4;have v4:=L.v4;have u4:=run_underlying L.t4;have t164:=L.t164;have a164:=L.a164;have z164:=L.z164;have v164:=L.v164;have uJ:=run_underlying L.t164;have t5:=X.t5;have a5:=X.a5;have z5:=X.z5;have v5:=X.v5;have u5:=run_underlying X.t5;have xV:∀args w,(callFunc (ρ.f 240) args).run P w=.ok (.enter (ρ.f 240) args) w:=enters_of L.f240 (by kernel_rfl) rfl;have gL:Calls P (ρ.f 240) #[.pointer (some ⟨b,0,none⟩)] w λe w1=>e=.returned (.tuple #[])/\(w1=w/\p=.pointer (some ⟨b,0,none⟩)\/w1=w.setCell ⟨b,0,none⟩ (.pointer (some ⟨b,0,none⟩))):=by
  rcases hp with rfl | rfl
  ·refine (Any.Builder_copyCheck_fresh { L with } X.toX72 b w (by rw[Lib.cell_of_heap bm];rfl) (by simp[World.shape?,bm]) (Lib.frozen_of_heap bm 0)).mono ?_;rintro e w' ⟨rfl,rfl⟩;exact ⟨rfl,.inr rfl⟩
  ·refine (Any.Builder_copyCheck_used { L with } X.toX72 b w (by rw[Lib.cell_of_heap bm];rfl)).mono ?_;rintro e w' ⟨rfl,rfl⟩;exact ⟨rfl,.inl ⟨rfl,rfl⟩⟩
 go_enter L.f166,Body.n166_ntmps ρ
 go_wp2_with (go_at_fn (ρ.f 240);refine gL.mono ?_)
 rintro e w1 ⟨rfl,h1⟩;have kl:w1.heap[b]?=some (.cells #[.pointer (some ⟨b,0,none⟩),v] (ρ.t 72) (0,0)):=by
  rcases h1 with ⟨rfl,rfl⟩ | rfl
  ·exact bm
  ·simp[World.setCell,Array.getElem?_modify,bm]
 have n8:w1.ownsRow 0 (ρ.t 5) 1 v bs.length bs:=by
  rcases h1 with ⟨rfl,_⟩ | rfl
  ·exact ak
  ·exact ownsRow_setCell_other ak (a:=⟨b,0,none⟩) aC _
 have c0:w1.cell? ⟨b,0,none⟩=some (.pointer (some ⟨b,0,none⟩)):=by rw[Lib.cell_of_heap kl];rfl
 have c1:w1.cell? ⟨b,1,none⟩=some v:=by rw[Lib.cell_of_heap kl];rfl
 go_wp2_with (at_builtin;refine Zkt rfl _ _ (ρ.t 37) (ρ.t 9) rfl (ρ.t 5) i0 L.t37 L.t9 hi fi vf sZ _ _ _ rfl n8 s rfl ?c3 ?c4 ?_)
 case c3=>unfold maxLen;omega
 case c4=>omega
 intro v' w2 cO gj mq;have aG:b < w1.heap.size:=by
  rcases Nat.lt_or_ge b w1.heap.size with h' | h'
  ·exact h'
  ·simp[Array.getElem?_eq_none h'] at kl
 have cE:w2.heap[b]?=some (.cells #[.pointer (some ⟨b,0,none⟩),v] (ρ.t 72) (0,0)):=by rw[gj.block b aG (λe=>aC e.symm)];exact kl
 have d0:w2.cell? ⟨b,0,none⟩=some (.pointer (some ⟨b,0,none⟩)):=by rw[Lib.cell_of_heap cE];rfl
 have d1:w2.cell? ⟨b,1,none⟩=some v:=by rw[Lib.cell_of_heap cE];rfl
 have f1:w2.frozen? ⟨b,1,none⟩=false:=Lib.frozen_of_heap cE 1;obtain ⟨ao,n',cap,rfl⟩:∃ao n' cap,v'=.slice ao n' cap:=by
  rcases cO.2 with ⟨hv,_⟩ | ⟨g,cap,cur,hv,_⟩
  ·exact ⟨_,_,_,hv⟩
  ·exact ⟨_,_,_,hv⟩
 go_wp2
 go_ret2
 exact ⟨rfl,w1,_,w2,h1,cO,gj,mq,rfl⟩
theorem ZrC (L:Lays.n169 P ρ) (X:Builder.Extra P ρ) (b g cap:Nat) (p:Value) (cur:Array Value) (l:List UInt8) (w:World) (h0:l≠[]) (bm:w.heap[b]?=some (.cells #[p,.slice (some ⟨g,0,none⟩) l.length cap] (ρ.t 72) (0,0)))
  (hg:w.heap[g]?=some (.cells cur (ρ.t 5) (0,0))) (ki:l.length<=cap) (iu:cap<=maxLen) (aU:cur.size=cap) (ak:w.ownsRow 0 (ρ.t 5) 1 (.slice (some ⟨g,0,none⟩) l.length cap) l.length (Lib.byteCells l)) :
  Calls P (ρ.f 169) #[.pointer (some ⟨b,0,none⟩)] w λe w'=>e=.returned (.string ⟨l.toArray⟩)/\w'=w.drew.freeze ⟨g,0,none⟩ l.length:=by
 have bC:l.length≠0:=by simpa using h0
 have c1:w.drew.cell? ⟨b,1,none⟩=some (.slice (some ⟨g,0,none⟩) l.length cap):=by have:w.drew.heap[b]?=some (.cells #[p,.slice (some ⟨g,0,none⟩) l.length cap] (ρ.t 72) (0,0)):=bm;rw[Lib.cell_of_heap this];rfl
 have yB:(Builtin.unsafeSliceData_ #[(ρ.t 37)] (ρ.t 127) #[.slice (some ⟨g,0,none⟩) l.length cap]).run P w.drew=.ok (.pointer (some ⟨g,0,none⟩)) w.drew :=
  Lib.run_unsafeSliceData_row _ _ _ _ _ _ (by omega)
 have tW:(Builtin.unsafeString_ #[(ρ.t 127),(ρ.t 3)] (ρ.t 9) #[.pointer (some ⟨g,0,none⟩),.int .i64 l.length]).run P w.drew=.ok (.string ⟨l.toArray⟩) (w.drew.freeze ⟨g,0,none⟩ l.length):=by refine Lib.run_unsafeString_row w.drew (ρ.t 127) (ρ.t 3) (ρ.t 9) (ρ.t 5) L.t127 X.cellsByte g cur.size (by have iZ:w.drew.heap[g]?=some (.cells cur (ρ.t 5) (0,0)):=hg;simp[World.shape?,iZ]) l h0 (by omega) (by unfold maxLen at iu;omega) ?_;intro j x hx;exact ak.cells (g:=g) rfl j (.int .u8 x.toNat) (by simp[Lib.byteCells,hx])
 have mixed:=L.mixed;have t72:=L.t72;have a72:=L.a72;have z72:=L.z72;have v72:=L.v72;have uG:=run_underlying L.t72;have t70:=L.t70;have a70:=L.a70;have z70:=L.z70;have v70:=L.v70;have uH:=run_underlying L.t70;have t37:=L.t37;have a37:=L.a37;have z37:=L.z37;have v37:=L.v37;have uI:=run_underlying L.t37;have t127:=L.t127;have a127:=L.a127;have z127:=L.z127;have v127:=L.v127;have uK:=run_underlying L.t127;have t3:=L.t3;have a3:=L.a3;have z3:=L.z3;have v3:=L.v3;have u3:=run_underlying L.t3;have t9:=L.t9;have a9:=L.a9;have z9:=L.z9;have v9:=L.v9;have u9:=run_underlying L.t9;have t5:=X.t5;have a5:=X.a5;have z5:=X.z5;have v5:=X.v5;have u5:=run_underlying X.t5
 go_enter L.f169,Body.n169_ntmps ρ
 go_wp2
 go_region_o
 all_goals (go_wp2;go_ret;exact ⟨rfl,rfl⟩)
end
theorem Zuo:Lays.n166 Tryz.prog Zd9:={ ZiY with }
theorem Zr8:Lays.n169 Tryz.prog Zd9:={ ZiY with }
def byG (c:UInt8):List GV:=[.u8 (c.toNat:Int)]
abbrev BuH (a:D) (s:Str):Zae:=[.blk [a,.row 1] 61,.row (s.map byG) 5 1]
abbrev BuO (s:Str):Zae:=[.blk [.ptr 0 0,.row 2] 61,.dead,.row (s.map byG) 5 1]
theorem ZjB {V:Nat->Prop} {w:World}:∀{s:Str} {vs:List Value},Zbg V w (s.map byG).flatten vs->vs=Lib.byteCells s
 | [],[],_=>rfl
 | [],_ :: _,h=>h.elim
 | _ :: _,[],h=>h.elim
 | c :: s,v :: vs,h=>by have h:ZaS V w (.u8 (c.toNat:Int)) v/\Zbg V w (s.map byG).flatten vs:=h;have h1:v=.int .u8 (c.toNat:Int):=h.1;rw[h1,ZjB h.2];rfl
theorem Zol {V:Nat->Prop} {w:World}:∀(s:Str),Zbg V w (s.map byG).flatten (Lib.byteCells s)
 | []=>trivial
 | _ :: s=>⟨rfl,Zol s⟩
theorem Zv3 {w:World} {g:Nat} {v0 v1 v:Value} {t:TypeId} (h:w.heap[g]?=some (.cells ⟨[v0,v1]⟩ t (0,0))):w.setCell ⟨g,1,none⟩ v=w.setRow g ⟨[v0,v]⟩:=by
 unfold World.setCell World.setRow;refine congrArg (λhp=>({ w with heap:=hp }:World)) (Array.ext_getElem? λi=>?_);rw[Array.getElem?_modify,Array.getElem?_modify];by_cases e:g=i
 ·subst e;simp[h]
 ·simp[e]
theorem Zv5 {w:World} {g:Nat} {v0 v1 v:Value} {t:TypeId} (h:w.heap[g]?=some (.cells ⟨[v0,v1]⟩ t (0,0))):w.setCell ⟨g,0,none⟩ v=w.setRow g ⟨[v,v1]⟩:=by
 unfold World.setCell World.setRow;refine congrArg (λhp=>({ w with heap:=hp }:World)) (Array.ext_getElem? λi=>?_);rw[Array.getElem?_modify,Array.getElem?_modify];by_cases e:g=i
 ·subst e;simp[h]
 ·simp[e]
theorem ZAK {w:World} {e:TypeId} {v:Value} {n:Nat} {xs:List Value} (h:w.ownsRow 0 e 1 v n xs):v.ownBlock=bk v:=by rcases h.2 with ⟨rfl,_⟩ | ⟨g,cap,cur,rfl,_⟩<;>rfl
theorem Zaj {L:Lv} (a:D) (ha:a=.nilP\/a=.ptr 0 0) (s t:Str) (hl:s.length+t.length<=140737488355328):CTH Tryz.prog (gl L) 15 1 (BuH a s) [.ptr 0 0,.g (.str t)] (λout=>out=.ret (.tuple [.g (.int (t.length:Int)),.nilI]) (BuO (s++t))):=by
 intro w β V aa hr hv;simp only[Zaa] at hv;obtain ⟨v0,us,rfl,h0,v1,gw,rfl,h1,rfl⟩:=hv;have h0:∃g,β 0=.pointer (some ⟨g,0,none⟩)/\v0=.pointer (some ⟨g,0,none⟩):=by simpa [Zab] using h0
 have h1:v1=.string ⟨⟨t⟩⟩:=by simpa [Zab,ZaS] using h1
 obtain ⟨g,cP,rfl⟩:=h0;subst h1;obtain ⟨g',vs,jk,hg,aU⟩:=hr.obj 0 _ rfl;have eg:g'=g:=by rw[cP] at jk;simpa using jk.symm
 subst eg;obtain ⟨mE,ak,ba,ah,_⟩:=hr.obj 1 _ rfl;have e1:=ZjB ba;subst e1;simp only[Zaa] at aU;obtain ⟨va,us,rfl,s7,vr,gw,rfl,lg,rfl⟩:=aU;have lg:vr=β 1:=by simpa [Zab] using lg
 subst lg;have hp:(a=.nilP/\va=.pointer none)\/(a=.ptr 0 0/\va=.pointer (some ⟨g',0,none⟩)):=by
  rcases ha with rfl | rfl
  ·exact .inl ⟨rfl,by simpa [Zab] using s7⟩
  ·have:∃g,β 0=.pointer (some ⟨g,0,none⟩)/\va=.pointer (some ⟨g,0,none⟩):=by simpa [Zab] using s7
   obtain ⟨g2,h2,rfl⟩:=this;rw[cP] at h2;injection h2 with h2;injection h2 with h2;injection h2 with h2;exact .inr ⟨rfl,by rw[h2]⟩
 have aC:(β 1).ownBlock≠some g':=λe=>by rw[ZAK ak] at e;exact absurd (hr.sep 0 1 _ _ g' rfl rfl rfl rfl (by rw[cP];rfl) e) (by decide)
 have lb:(Lib.byteCells s).length=s.length:=Lib.byteCells_length s;have ls:(s.map byG).length=s.length:=Yaa _;refine (ZsO Zuo Zhl g' va (β 1) (Lib.byteCells s) ⟨⟨t⟩⟩ w (hp.imp And.right And.right) hg (by rw[lb,<- ls];exact ak) aC (by rw[lb];exact hl)).mono ?_;rintro e w' ⟨rfl,w1,v',w2,gz,cO,gj,mq,rfl⟩;have r1:RelD ⟨w,ZiA (BuH a s) β,V,gl L⟩ (BuH (.ptr 0 0) s) β V w1:=by
  rcases gz with ⟨rfl,hs⟩ | rfl
  ·rcases hp with ⟨_,hv⟩ | ⟨rfl,_⟩
   ·rw[hv] at hs;cases hs
   ·exact hr
  ·rw[Zv5 hg];exact hr.set_blk (i:=0) rfl cP [.ptr 0 0,.row 1] [.pointer (some ⟨g',0,none⟩),β 1] (by simp only[Zaa,Zab];exact ⟨_,_,rfl,⟨g',cP,rfl⟩,_,_,rfl,rfl,rfl⟩)
 have ec:Lib.byteCells s++Lib.strCells ⟨⟨t⟩⟩=Lib.byteCells (s++t):=by simp[Lib.byteCells,Lib.strCells]
 have r2:=r1.grow_row (i:=1) rfl ((s++t).map byG) (Lib.byteCells (s++t)) v' 5 1 (Zol _) (λr hr=>by obtain ⟨c,_,rfl⟩:=YaU.1 hr;rfl) (by decide) (by rw[<- ec,Yaa,Yab,<- lb];exact cO) gj mq;have cE:upf β 2 v' 0=.pointer (some ⟨g',0,none⟩):=cP;obtain ⟨g3,x8,qa,wB,kj⟩:=r2.obj 0 _ rfl;have eg:g3=g':=by have qa:upf β 2 v' 0=.pointer (some ⟨g3,0,none⟩):=qa;rw[cE] at qa;injection qa with h2;injection h2 with h2;injection h2 with h2;exact h2.symm
 subst eg;simp only[Zaa] at kj;obtain ⟨x,_,rfl,hx,y,_,rfl,_,rfl⟩:=kj;have hx:x=.pointer (some ⟨g3,0,none⟩):=by
  have:∃g,upf β 2 v' 0=.pointer (some ⟨g,0,none⟩)/\x=.pointer (some ⟨g,0,none⟩):=by simpa [Zab] using hx
  obtain ⟨g2,h2,rfl⟩:=this;rw[cE] at h2;injection h2 with h2;injection h2 with h2;injection h2 with h2;rw[h2]
 subst hx;rw[Zv3 wB];have r3:=r2.set_blk (i:=0) rfl cE [.ptr 0 0,.row 2] [.pointer (some ⟨g3,0,none⟩),v'] (by simp only[Zaa,Zab];exact ⟨_,_,rfl,⟨g3,cE,rfl⟩,_,_,rfl,rfl,rfl⟩);refine ⟨_,_,_,_,rfl,r3,by simp only[Zab,Zaa,ZaS];exact ⟨_,rfl,_,_,rfl,rfl,_,_,rfl,rfl,rfl⟩,λi hi=>?_⟩;obtain rfl:i=0:=by omega
 exact ⟨⟨_,_,rfl,rfl,trivial,rfl⟩,rfl⟩
theorem ZnS {w:World} {p:Addr} {n k:Nat} (h:k≠p.block):(w.freeze p n).heap[k]?=w.heap[k]?:=by
 unfold World.freeze;split
 ·rfl
 ·simp only[Array.getElem?_modify];rw[if_neg (λe=>h e.symm)]
theorem ZuI {w:World} {p:Addr} {n:Nat}:(w.freeze p n).os=w.os/\(w.freeze p n).tape=w.tape/\(w.freeze p n).output=w.output/\(w.freeze p n).heap.size=w.heap.size:=by
 unfold World.freeze;split
 ·exact ⟨rfl,rfl,rfl,rfl⟩
 ·exact ⟨rfl,rfl,rfl,by simp⟩
theorem ZsJ {L:Lv} (s:Str) (h0:s≠[]):CTH Tryz.prog (gl L) 19 0 (BuH (.ptr 0 0) s) [.ptr 0 0] (λout=>out=.ret (.g (.str s)) []):=by
 intro w β V aa hr hv;simp only[Zaa] at hv;obtain ⟨v0,us,rfl,dN,rfl⟩:=hv;have dN:∃g,β 0=.pointer (some ⟨g,0,none⟩)/\v0=.pointer (some ⟨g,0,none⟩):=by simpa [Zab] using dN
 obtain ⟨b,cP,rfl⟩:=dN;obtain ⟨b',vs,jk,bm,aU⟩:=hr.obj 0 _ rfl;have eg:b'=b:=by rw[cP] at jk;simpa using jk.symm
 subst eg;obtain ⟨mE,ak,ba,ah,_⟩:=hr.obj 1 _ rfl;have e1:=ZjB ba;subst e1;simp only[Zaa] at aU;obtain ⟨va,us,rfl,_,vr,gw,rfl,lg,rfl⟩:=aU;have lg:vr=β 1:=by simpa [Zab] using lg
 subst lg;have lb:(Lib.byteCells s).length=s.length:=Lib.byteCells_length s;have ls:(s.map byG).length=s.length:=Yaa _;rw[ls] at ak;rcases ak.2 with ⟨_,hz⟩ | ⟨g,cap,cur,cF,_,hg,dH,iu,aU,dn⟩
 ·exact absurd (YaP hz) h0
 have vR:ZiA (BuH (.ptr 0 0) s) β g:=⟨1,_,rfl,rfl,by show bk (β 1)=some g;rw[cF];rfl⟩;have xf:¬V g:=hr.vout 1 _ g rfl rfl (by show bk (β 1)=some g;rw[cF];rfl);rw[cF] at bm ak;refine (ZrC Zr8 Zhl b' g cap va cur s w h0 bm hg dH iu (by omega) ak).mono ?_;rintro e w' ⟨rfl,rfl⟩;obtain ⟨f1,f2,f3,f4⟩:=ZuI (w:=w.drew) (p:=⟨g,0,none⟩) (n:=s.length);have cT:∀k,k≠g->(w.drew.freeze ⟨g,0,none⟩ s.length).heap[k]?=w.heap[k]?:=λk hk=>ZnS (w:=w.drew) (p:=⟨g,0,none⟩) hk;have gW:ZaI V w V (w.drew.freeze ⟨g,0,none⟩ s.length):=λk hk=>⟨hk,cT k (λe=>xf (e▸hk))⟩;have r1:RelD ⟨w,ZiA (BuH (.ptr 0 0) s) β,V,gl L⟩ [] β V (w.drew.freeze ⟨g,0,none⟩ s.length):=by
  refine ⟨λi o h=>(by simp at h),λi j o o' k h=>(by simp at h),λi o k h=>(by simp at h),λi o k h=>(by simp at h),λk hk=>?_,hr.vin,hr.vnew,⟨f1,f2,f3,?_,λk _ hk=>cT k (λe=>hk (e▸vR))⟩,hr.gl.move gW⟩
  ·rw[f4];exact hr.vlt k hk
  ·rw[f4];exact Yas _
 exact ⟨_,_,_,_,rfl,r1,by simp only[Zab,ZaS],λi hi=>absurd hi (Ybn i)⟩
end ZN
namespace ZN
open Go Go.Dm Go.Eng Go.RowKit Barb
variable {L:Lv}
theorem exW {l:List Barb.Expr} {i:Nat} (h:i < l.length):(l.map Expr.g)[i]?=some [.int l[i].k,.int l[i].n,.str l[i].of,.str l[i].s,.sl 5 (l[i].args.map Expr.g)]:=(gm h).trans (congrArg some (Expr.g_eq _))
theorem Zw5 {f:Nat} {x:Barb.Expr} (h:Zaw (f+1) x=0) (hf:f<=11) :
  (x.args.length<=4/\(∀y∈x.args,Zaw f y=0)/\∀t∈x.args.map (exS f),t.length<=223696200) /\
  ((x.k=1/\∃n:Nat,n<=65535/\x.n=(n:Int)/\exS (f+1) x=Lib.decDigits n)\/(x.k=2/\exS (f+1) x=x.s) \/
  (x.k=3/\x.s.length<=8/\∃t0,x.args.map (exS f)=[t0]/\exS (f+1) x=x.s++[91]++t0++[93]) \/
  (x.k=4/\x.s.length<=8/\x.of.length<=8/\exS (f+1) x=(if x.of=[] then [] else x.of++[46])++(x.s++[40]++Lib.join (x.args.map (exS f)) [44,32]++[41])) \/
  (x.k=5/\∃(n:Nat) (t0 t1:Str),(1<=n/\n<=10)/\x.n=(n:Int)/\x.args.map (exS f)=[t0,t1]/\exS (f+1) x=[40]++t0++[32]++opS n++[32]++t1++[41])):=by
 have h4:=ZxW h;have hb:∀y,Zaw f y=0->(exS f y).length<=223696200:=λy hy=>YaC (Zj2 f y hy) (ZzT f (by omega));have hl:∀y∈x.args,Zaw f y=0:=by
  rcases Zgb h with ⟨n,hn,rfl⟩ | ⟨s,hs,rfl⟩ | ⟨s,a,hs,ha,rfl⟩ | ⟨of,s,l,ho,hs,hl,rfl⟩ | ⟨n,a,b,hn,ha,hb,rfl⟩
  ·exact λy hy=>by simp[Expr.args] at hy
  ·exact λy hy=>by simp[Expr.args] at hy
  ·exact λy hy=>by simp only[Expr.args,Yaz] at hy;rw[hy];exact ha
  ·exact hl
  ·exact λy hy=>by
    simp only[Expr.args,Yav,Ya4,or_false] at hy;rcases hy with rfl | rfl
    ·exact ha
    ·exact hb
 refine ⟨⟨h4,hl,λt ht=>by obtain ⟨y,hy,rfl⟩:=YaU.1 ht;exact hb y (hl y hy)⟩,?_⟩;rcases Zgb h with ⟨n,hn,rfl⟩ | ⟨s,hs,rfl⟩ | ⟨s,a,hs,ha,rfl⟩ | ⟨of,s,l,ho,hs,hl,rfl⟩ | ⟨n,a,b,hn,ha,hb,rfl⟩
 ·exact .inl ⟨rfl,n,hn,rfl,rfl⟩
 ·exact .inr (.inl ⟨rfl,rfl⟩)
 ·exact .inr (.inr (.inl ⟨rfl,Zcw hs,exS f a,rfl,by show s++([91]++(exS f a++[93]))=_;simp[Expr.s]⟩))
 ·refine .inr (.inr (.inr (.inl ⟨rfl,Zcw hs,ho.elim (λe=>by rw[e];simp[Expr.of]) Zcw,?_⟩)));show (if of=[] then [] else of++[46])++(s++([40]++(Lib.join (l.map (exS f)) [44,32]++[41])))=(if of=[] then [] else of++[46])++(s++[40]++Lib.join (l.map (exS f)) [44,32]++[41]);simp
 ·refine .inr (.inr (.inr (.inr ⟨rfl,n.toNat,exS f a,exS f b,by omega,(show n=(n.toNat:Int) from (Yby (by omega)).symm),rfl,?_⟩)));show [40]++(exS f a++([32]++((opS n++[32])++(exS f b++[41]))))=_;rw[Yby (by omega)];simp
set_option maxRecDepth 20000 in
theorem Zn3:∀(f:Nat),f<=12->∀(x:Barb.Expr),Zaw f x=0->CT Tryz.prog (gl L) 69 [.agg x.d] (Is (.g (.str (exS f x)))):=by
 intro f
 induction f with
 | zero=>intro _ x h;cases h
 | succ f ih =>
  intro hf x h;obtain ⟨⟨h4,hl,cG⟩,hc⟩:=Zw5 h (by omega);have la:(x.args.map Expr.g).length=x.args.length:=Yaa _;generalize exS (f+1) x=r at *;refine enter hT hF hM Tryz.func69 rfl 75 rfl (by kernel_rfl) [.tmp 2] rfl [.agg x.d] rfl _ ?_;refine ZaO (ι:=Nat) (λi=>[(1,.ptr 0 0),(3,.row 1),(8,.g (.sl 5 (x.args.map Expr.g))),(9,.g (.int ((x.args.map Expr.g).length:Int))),(10,.g (.int (i:Int)))]) (λi=>[.blk x.d 146,.row (((x.args.map (exS f)).take i).map ZaT) 9 1]) (λi=>i<=x.args.length) (λi=>x.args.length - i)
   ⟨0,[.old 0,.nil 9 1],⟨rfl,.inl rfl,.inr ⟨lk rfl,.inr rfl,lk rfl,lk rfl,lk rfl,trivial⟩,rfl⟩,Yat _⟩ ?_
  intro Rd aj i hi;refine ⟨λh1=>?_,λh1=>?_⟩
  ·have h2:i < x.args.length:=by omega
   have h3:i < (x.args.map (exS f)).length:=by rw[Yaa];exact h2
   refine ⟨i,_,rfl,exW h2,?_⟩;refine Zad (.inl rfl) (ih (by omega) x.args[i] (hl _ (Yai h2))) ?_;refine ⟨[[.str (exS f x.args[i])]],rfl,rfl,⟨rfl,trivial⟩,?_⟩;refine ⟨⟨by simp only[maxLen,List.length_cons,List.length_nil,Yaa,Yam];omega,by simp only[List.length_cons,List.length_nil,Yaa,Yam];omega⟩,?_⟩;refine ⟨_,I64.wrap (by unfold I64;omega),?_⟩;exact aj _ _ _ ⟨i+1,[.old 0,.old 4],⟨rfl,.inr ⟨⟨rfl,.inl rfl⟩,⟨by rw[ZaJ h3,Yaf,Ycm];rfl,rfl,rfl⟩,trivial⟩,.inr ⟨lk rfl,lk rfl,lk rfl,lk rfl,lkI (by omega),trivial⟩,rfl⟩,h2,by omega⟩
  ·have e:(x.args.map (exS f)).take i=x.args.map (exS f):=Yay (by rw[Yaa];omega);rcases hc with ⟨hk,n,hn,en,er⟩ | ⟨hk,er⟩ | ⟨hk,hs,t0,et,er⟩ | ⟨hk,hs,ho,er⟩ | ⟨hk,n,t0,t1,hn,en,et,er⟩
   ·have hI:=Zru (L:=L) n hn;rw[<- en] at hI;refine ⟨λ_=>?_,λh=>absurd hk h⟩;refine Zad (.inl rfl) hI ?_;exact ⟨rfl,retS er.symm⟩
   ·refine ⟨λh=>absurd h (by omega),λ_=>⟨λ_=>?_,λh=>absurd hk h⟩⟩;exact ⟨rfl,retS er.symm⟩
   ·refine ⟨λh=>absurd h (by omega),λ_=>⟨λh=>absurd h (by omega),λ_=>⟨λ_=>?_,λh=>absurd hk h⟩⟩⟩;have lj:=cG t0 (by rw[et];simp);have h0:0 < (((x.args.map (exS f)).take i).map ZaT).length:=by rw[e,et];simp
    have g0:(((x.args.map (exS f)).take i).map ZaT)[0]?=some (ZaT t0):=by rw[e,et];rfl
    refine ⟨none,rfl,?_⟩;refine ⟨by simp only[List.length_cons,List.length_nil];omega,?_⟩;refine ⟨0,rfl,h0,?_⟩;refine ⟨ZaT t0,g0,ZcI rfl rfl ?_⟩;refine ⟨by simp only[Yab,List.length_cons,List.length_nil];omega,?_⟩;refine ⟨by simp only[Yab,List.length_cons,List.length_nil];omega,?_⟩;exact ⟨rfl,retS er.symm⟩
   ·refine ⟨λh=>absurd h (by omega),λ_=>⟨λh=>absurd h (by omega),λ_=>⟨λh=>absurd h (by omega),λ_=>⟨λ_=>?_,λh=>absurd hk h⟩⟩⟩⟩;have hj:=ZiZ (b:=223696200) (x.args.map (exS f)) cG;have dt:(x.args.map (exS f)).length*(223696200+2)<=4*(223696200+2):=YaJ _ (by rw[Yaa];exact h4);have hJ:=Zrt (L:=L) ((x.args.map (exS f)).take i) [44,32] (by simp;omega) (by rw[e];omega);refine ⟨none,rfl,?_⟩;refine ⟨by simp only[List.length_cons,List.length_nil];omega,?_⟩;refine ⟨_,_,.inl rfl,hJ,rfl,?_⟩;refine ⟨by rw[e];simp only[Yab,List.length_cons,List.length_nil];omega,?_⟩;refine ⟨by rw[e];simp only[Yab,List.length_cons,List.length_nil];omega,?_⟩;refine ⟨λh0=>?_,λh0=>?_⟩
    ·refine ⟨by simp only[List.length_cons,List.length_nil];omega,?_⟩;refine ⟨by rw[e];simp only[Yab,List.length_cons,List.length_nil];omega,?_⟩;exact ⟨rfl,retS (by rw[er,if_neg h0,e])⟩
    ·exact ⟨rfl,retS (by rw[er,if_pos h0,e];rfl)⟩
   ·refine ⟨λh=>absurd h (by omega),λ_=>⟨λh=>absurd h (by omega),λ_=>⟨λh=>absurd h (by omega),λ_=>⟨λh=>absurd h (by omega),λ_=>?_⟩⟩⟩⟩;have lj:=cG t0 (by rw[et];simp);have bh:=cG t1 (by rw[et];simp);have h0:1 < (((x.args.map (exS f)).take i).map ZaT).length:=by rw[e,et];simp
    have g0:(((x.args.map (exS f)).take i).map ZaT)[0]?=some (ZaT t0):=by rw[e,et];rfl
    have g1:(((x.args.map (exS f)).take i).map ZaT)[1]?=some (ZaT t1):=by rw[e,et];rfl
    have rW:n=1\/n=2\/n=3\/n=4\/n=5\/n=6\/n=7\/n=8\/n=9\/n=10:=by omega
    clear hn;refine ⟨none,rfl,?_⟩;refine ⟨0,rfl,by omega,?_⟩;refine ⟨ZaT t0,g0,ZcI rfl rfl ?_⟩;refine ⟨by simp only[List.length_cons,List.length_nil];omega,?_⟩;refine ⟨by simp only[Yab,List.length_cons,List.length_nil];omega,?_⟩;rcases rW with rfl | rfl | rfl | rfl | rfl | rfl | rfl | rfl | rfl | rfl
    all_goals
     refine ⟨_,congrArg (λm=>D.g (GV.int m)) en,by decide,?_⟩;refine ⟨by simp only[Yab,List.length_cons,List.length_nil];omega,?_⟩;refine ⟨by simp only[Yab,List.length_cons,List.length_nil];omega,?_⟩;refine ⟨1,rfl,h0,?_⟩;refine ⟨ZaT t1,g1,ZcI rfl rfl ?_⟩;refine ⟨by simp only[Yab,List.length_cons,List.length_nil];omega,?_⟩;refine ⟨by simp only[Yab,List.length_cons,List.length_nil];omega,?_⟩;exact ⟨rfl,retS er.symm⟩
end ZN

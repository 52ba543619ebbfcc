/-
  What the document says is wrong with a unit, and its words: the contracts.
-/
import Derived.Test.YtabjelabdojpkaaDoorFt
namespace Barb
open Go Go.Dm Go.Eng
abbrev Unit.d (u:Unit):List D:=[.g (.str u.name),.g (.sl 1 (u.vars.map strG)),.g (.sl 2 (u.arrays.map Arr.g)),.g (.sl 4 (u.funcs.map Fun.g))]
theorem Fun.g_eq (f:Fun):f.g=[.str f.name,.bool f.isOpen,.sl 1 (f.params.map strG),.sl 5 (f.body.map Stmt.g)]:=by
 rw[Fun.g,Stmt.gs_map]
abbrev Fun.d (f:Fun):List D:=[.g (.str f.name),.g (.bool f.isOpen),.g (.sl 1 (f.params.map strG)),.g (.sl 5 (f.body.map Stmt.g))]
theorem nameE_ok {s:Str} (h:identP s):nameE s=0:=by unfold nameE;rw[if_pos h]
theorem nameE_no {s:Str} (h:¬identP s):nameE s=4:=by unfold nameE;rw[if_neg h]
theorem manyN_succ {l:List Fun} {i:Nat} (h:i < l.length):manyN (l.take (i+1))=manyN (l.take i)+stmtsN 12 l[i].body:=by
 unfold manyN;rw[take_one h,List.map_append,List.sum_append];simp
end Barb
namespace Go.Proofs.YtabjelabdojpkaaDoor
open Go Go.Dm Go.Eng Barb
variable {L:Lv}

set_option maxHeartbeats 1000000 in
theorem UnitFault_any (u:Barb.Unit) (hu:u.I):CT Tryd.prog (gl L) 18 [.agg u.d] (Is (.g (.int (unitE u)))):=by
 obtain ⟨hn,⟨hvs,hvl⟩,hai,hal,hfi,hfl⟩:=hu
 have lv:(u.vars.map strG).length=u.vars.length:=by simp
 have la:(u.arrays.map Arr.g).length=u.arrays.length:=by simp
 have lf:(u.funcs.map Fun.g).length=u.funcs.length:=by simp
 have e:unitE u=unitE u:=rfl
 conv at e=>rhs;unfold unitE
 refine enter hT hF hM Tryd.func18 rfl 116 rfl (by kernel_rfl) [.tmp 2] rfl [.agg u.d] rfl _ ?_
 refine callIs (.inl rfl) (NameMay_any u.name hn) ⟨fun h1=>⟨rfl,retI (by rw[e,if_pos h1])⟩,fun h1=>?_⟩
 rw[if_neg (Classical.not_not.2 h1)] at e
 refine ⟨fun a1=>⟨rfl,retI (by rw[e,if_pos (by omega)])⟩,fun a1=>⟨fun a2=>⟨rfl,retI (by rw[e,if_pos (by omega)])⟩,fun a2=>⟨fun a3=>⟨rfl,retI (by rw[e,if_pos (by omega)])⟩,fun a3=>?_⟩⟩⟩
 rw[if_neg (by omega)] at e
 refine loopR (ι:=Nat) (fun i=>[(3,.g (.int (i:Int))),(1,.ptr 0 0)]) (fun _=>[.blk u.d 26]) (fun i=>i≤u.vars.length∧∀ j (hj:j < u.vars.length),j < i→nameE u.vars[j]=0) (fun i=>u.vars.length - i)
  ⟨0,[.old 0],⟨rfl,.inl rfl,.inr ⟨lk rfl,lk rfl,trivial⟩,rfl⟩,Nat.zero_le _,none0⟩ ?_
 intro Rd hRd i ⟨hi,ha⟩
 refine ⟨fun b0=>?_,fun b0=>?_⟩
 ·have b1:i < u.vars.length:=by omega
  refine ⟨i,_,rfl,gm b1,?_⟩
  refine callIs (.inl rfl) (NameMay_any u.vars[i] (hvs _ (List.getElem_mem _))) ⟨fun b2=>⟨rfl,retI ?_⟩,fun b2=>⟨_,I64.wrap (by unfold I64;omega),?_⟩⟩
  ·have hz:=nameE_no b2
   rw[e,firstE_at b1 ha (by rw[hz];decide),hz,if_pos (by decide)]
  ·exact hRd _ _ _ ⟨i+1,[.old 0],⟨rfl,.inl rfl,.inr ⟨lk rfl,lk rfl,trivial⟩,rfl⟩,⟨b1,firstE_step b1 ha (nameE_ok b2)⟩,by omega⟩
 have hv0:firstE nameE u.vars=0:=firstE_end (by omega) ha
 rw[if_neg (fun h=>h hv0)] at e
 clear hRd ha hi b0
 refine loopR (ι:=Nat) (fun i=>[(4,.g (.int (i:Int))),(1,.ptr 0 0)]) (fun _=>[.blk u.d 26]) (fun i=>i≤u.arrays.length∧∀ j (hj:j < u.arrays.length),j < i→arrE u.arrays[j]=0) (fun i=>u.arrays.length - i)
  ⟨0,[.old 0],⟨rfl,.inl rfl,.inr ⟨lk rfl,lk rfl,trivial⟩,rfl⟩,Nat.zero_le _,none0⟩ ?_
 intro Rd hRd i ⟨hi,ha⟩
 refine ⟨fun b0=>?_,fun b0=>?_⟩
 ·have b1:i < u.arrays.length:=by omega
  have bI:=hai _ (List.getElem_mem b1)
  refine ⟨i,_,rfl,gm b1,?_⟩
  have hz:∀ v:Int,v≠0→arrE u.arrays[i]=v→unitE u=v:=fun v h0 h=>by rw[e,firstE_at b1 ha (by rw[h];exact h0),h,if_pos h0]
  refine callIs (.inl rfl) (NameMay_any u.arrays[i].name bI.1) ⟨fun b2=>⟨rfl,retI (hz 4 (by decide) (by unfold arrE;rw[if_pos b2])).symm⟩,fun b2=>?_⟩
  refine ⟨i,_,rfl,gm b1,?_⟩
  refine callIs (.inl rfl) (In_any u.arrays[i].size 1 10) ⟨fun b3=>⟨rfl,retI (hz 2 (by decide) (by unfold arrE;rw[if_neg (Classical.not_not.2 b2),if_pos b3])).symm⟩,fun b3=>⟨_,I64.wrap (by unfold I64;omega),?_⟩⟩
  exact hRd _ _ _ ⟨i+1,[.old 0],⟨rfl,.inl rfl,.inr ⟨lk rfl,lk rfl,trivial⟩,rfl⟩,⟨b1,firstE_step b1 ha (by unfold arrE;rw[if_neg (Classical.not_not.2 b2),if_neg (Classical.not_not.2 b3)])⟩,by omega⟩
 have ha0:firstE arrE u.arrays=0:=firstE_end (by omega) ha
 rw[if_neg (fun h=>h ha0)] at e
 clear hRd ha hi b0
 refine loopR (ι:=Nat) (fun i=>[(5,.g (.int (IntKind.i64.wrap (manyN (u.funcs.take i))))),(6,.g (.int (i:Int))),(1,.ptr 0 0)]) (fun _=>[.blk u.d 26]) (fun i=>i≤u.funcs.length∧∀ j (hj:j < u.funcs.length),j < i→funE u.funcs[j]=0) (fun i=>u.funcs.length - i)
  ⟨0,[.old 0],⟨rfl,.inl rfl,.inr ⟨lkI rfl,lk rfl,lk rfl,trivial⟩,rfl⟩,Nat.zero_le _,none0⟩ ?_
 intro Rd hRd i ⟨hi,ha⟩
 refine ⟨fun b0=>?_,fun b0=>?_⟩
 rotate_left
 ·have hf0:firstE funE u.funcs=0:=firstE_end (by omega) ha
  rw[if_neg (fun h=>h hf0)] at e
  have hiE:i=u.funcs.length:=by omega
  rw[← List.take_length (l:=u.funcs),← hiE] at e
  exact ⟨fun c=>⟨rfl,retI (by rw[e,if_pos c])⟩,fun c=>⟨rfl,retI (by rw[e,if_neg c])⟩⟩
 have b1:i < u.funcs.length:=by omega
 obtain ⟨fn,⟨fps,fpl⟩,fbl,fbI⟩:=hfi _ (List.getElem_mem b1)
 have hz:∀ v:Int,v≠0→funE u.funcs[i]=v→unitE u=v:=fun v h0 h=>by rw[e,firstE_at b1 ha (by rw[h];exact h0),h,if_pos h0]
 have next:funE u.funcs[i]=0→∀ j (hj:j < u.funcs.length),j < i+1→funE u.funcs[j]=0:=fun h0=>firstE_step b1 ha h0
 have hsucc:=manyN_succ b1
 have ef:funE u.funcs[i]=funE u.funcs[i]:=rfl
 conv at ef=>rhs;unfold funE
 refine ⟨i,_,rfl,(gm b1).trans (congrArg some (Fun.g_eq _)),?_⟩
 generalize u.funcs[i]=f at *
 have lp:(f.params.map strG).length=f.params.length:=by simp
 refine callIs (.inl rfl) (NameMay_any f.name fn) ⟨fun b2=>⟨rfl,retI (hz 4 (by decide) (by rw[ef,if_pos b2])).symm⟩,fun b2=>?_⟩
 rw[if_neg (Classical.not_not.2 b2)] at ef
 refine ⟨fun b3=>⟨rfl,retI (hz 1 (by decide) (by rw[ef,if_pos (by omega)])).symm⟩,fun b3=>?_⟩
 rw[if_neg (by omega)] at ef
 refine loopR (ι:=Nat) (fun k=>[(8,.g (.int (k:Int))),(1,.ptr 0 0),(7,.ptr 1 0)]) (fun _=>[.blk u.d 26,.blk f.d 54]) (fun k=>k≤f.params.length∧∀ j (hj:j < f.params.length),j < k→nameE f.params[j]=0) (fun k=>f.params.length - k)
  ⟨0,[.old 0,.old 1],⟨rfl,.inl rfl,.inr ⟨lk rfl,lk rfl,lk rfl,trivial⟩,rfl⟩,Nat.zero_le _,none0⟩ ?_
 intro Rk hRk k ⟨hk1,hk2⟩
 refine ⟨fun c0=>?_,fun c0=>?_⟩
 ·have c1:k < f.params.length:=by omega
  refine ⟨k,_,rfl,gm c1,?_⟩
  refine callIs (.inl rfl) (NameMay_any f.params[k] (fps _ (List.getElem_mem _))) ⟨fun c2=>⟨rfl,retI ?_⟩,fun c2=>⟨_,I64.wrap (by unfold I64;omega),?_⟩⟩
  ·have hq:=nameE_no c2
   refine (hz 4 (by decide) ?_).symm
   rw[ef,firstE_at c1 hk2 (by rw[hq];decide),hq,if_pos (by decide)]
  ·exact hRk _ _ _ ⟨k+1,[.old 0,.old 1],⟨rfl,.inl rfl,.inr ⟨lk rfl,lk rfl,lk rfl,trivial⟩,rfl⟩,⟨c1,firstE_step c1 hk2 (nameE_ok c2)⟩,by omega⟩
 have hp0:firstE nameE f.params=0:=firstE_end (by omega) hk2
 rw[if_neg (fun h=>h hp0)] at ef
 refine callIs (.inl rfl) (stmtsFault_any 12 f.body fbI fbl 1 (by decide) (by decide)) ?_
 refine ⟨fun c3=>⟨rfl,retI (hz _ c3 ef).symm⟩,fun c3=>?_⟩
 refine ⟨_,rfl,_,I64.wrap (by unfold I64;omega),?_⟩
 exact hRd _ _ _ ⟨i+1,[.old 0],⟨rfl,.inl rfl,.inr ⟨lkI (by unfold stV;rw[if_pos c3,hsucc,wrap_add',wrap_add]),lk rfl,lk rfl,trivial⟩,rfl⟩,⟨b1,next (ef.trans c3)⟩,by omega⟩

end Go.Proofs.YtabjelabdojpkaaDoor

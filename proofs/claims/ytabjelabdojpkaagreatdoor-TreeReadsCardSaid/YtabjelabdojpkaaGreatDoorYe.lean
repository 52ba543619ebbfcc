/-
  Equal things are the same: the contracts.
-/
import Derived.Test.YtabjelabdojpkaaGreatDoorRi
import Derived.Test.YtabjelabdojpkaaGreatDoorSe
namespace Go.Proofs.YtabjelabdojpkaaGreatDoor
open Go Go.Dm Go.Eng Go.RowKit Barb
variable {L:Lv}
theorem feG {l:List Fun} {i:Nat} (h:i < l.length):(l.map Fun.g)[i]?=some [.str l[i].name,.bool l[i].isOpen,.sl 1 (l[i].params.map strG),.sl 5 (l[i].body.map Stmt.g)]:=(gm h).trans (congrArg some (Fun.g_eq _))
theorem eeG {l:List Barb.Expr} {i:Nat} (h:i < l.length):(l.map Expr.g)[i]?=some [.int l[i].k,.int l[i].n,.str l[i].of,.str l[i].s,.sl 5 (l[i].args.map Expr.g)]:=(gm h).trans (congrArg some (Expr.g_eq _))
theorem seG {l:List Barb.Stmt} {i:Nat} (h:i < l.length):(l.map Stmt.g)[i]?=some [.int l[i].k,.str l[i].s,.sl 5 (l[i].xs.map Expr.g),.sl 5 (l[i].b.map Stmt.g),.sl 5 (l[i].e.map Stmt.g)]:=(gm h).trans (congrArg some (Stmt.g_eq _))
theorem argsSize {l:List Barb.Expr} {i:Nat} (h:i < l.length):SizeOf.sizeOf l[i].args < SizeOf.sizeOf l:=by
 have h1:SizeOf.sizeOf l[i] < SizeOf.sizeOf l:=List.sizeOf_lt_of_mem (List.getElem_mem h)
 have h2:SizeOf.sizeOf l[i].args < SizeOf.sizeOf l[i]:=by
  cases l[i]
  simp[Expr.args]
  omega
 omega
theorem bodySize {l:List Barb.Stmt} {i:Nat} (h:i < l.length):SizeOf.sizeOf l[i].b < SizeOf.sizeOf l∧SizeOf.sizeOf l[i].e < SizeOf.sizeOf l:=by
 have h1:SizeOf.sizeOf l[i] < SizeOf.sizeOf l:=List.sizeOf_lt_of_mem (List.getElem_mem h)
 have h2:SizeOf.sizeOf l[i].b < SizeOf.sizeOf l[i]∧SizeOf.sizeOf l[i].e < SizeOf.sizeOf l[i]:=by
  cases l[i]
  simp[Stmt.b,Stmt.e]
  omega
 omega
theorem sameTexts_any (l:List Str) (hl:l.length*16≤140737488351232):CT Tryz.prog (gl L) 38 [.g (.sl 1 (l.map strG)),.g (.sl 1 (l.map strG))] (Is (.g (.bool true))):=by
 have ll:(l.map strG).length=l.length:=List.length_map _
 refine enter hT hF hM Tryz.func38 rfl 26 rfl (by kernel_rfl) [.tmp 4] rfl [.g (.sl 1 (l.map strG)),.g (.sl 1 (l.map strG))] rfl _ ?_
 refine ⟨fun h=>absurd rfl h,fun _=>?_⟩
 refine loopR (ι:=Nat) (fun i=>[(5,.g (.int (i:Int)))]) (fun _=>[]) (fun i=>i≤l.length) (fun i=>l.length - i)
  ⟨0,[],⟨rfl,.inl rfl,.inr ⟨lk rfl,trivial⟩,rfl⟩,Nat.zero_le _⟩ ?_
 intro Rd hRd i hi
 refine ⟨fun h1=>?_,fun h1=>⟨rfl,retIs (.inl rfl)⟩⟩
 have h2:i < l.length:=by omega
 refine ⟨none,rfl,i,_,rfl,gm h2,i,_,rfl,gm h2,?_⟩
 refine ⟨fun h=>absurd rfl h,fun _=>⟨_,I64.wrap (by unfold I64;omega),?_⟩⟩
 exact hRd _ _ _ ⟨i+1,[],⟨rfl,.inl rfl,.inr ⟨lk rfl,trivial⟩,rfl⟩,h2,by omega⟩
set_option maxRecDepth 20000 in
theorem sameExprs_any {L:Lv}:∀ (n:Nat) (l:List Barb.Expr),SizeOf.sizeOf l≤n→(∀ x∈l,Expr.I x)→l.length*72≤140737488351232→CT Tryz.prog (gl L) 39 [.g (.sl 5 (l.map Expr.g)),.g (.sl 5 (l.map Expr.g))] (Is (.g (.bool true)))
 | 0,l,h,_,_=>by cases l<;>simp at h
 | n+1,l,h,hI,hl=>by
  have ll:(l.map Expr.g).length=l.length:=List.length_map _
  refine enter hT hF hM Tryz.func39 rfl 81 rfl (by kernel_rfl) [.tmp 4] rfl [.g (.sl 5 (l.map Expr.g)),.g (.sl 5 (l.map Expr.g))] rfl _ ?_
  refine ⟨fun h=>absurd rfl h,fun _=>?_⟩
  refine loopR (ι:=Nat) (fun i=>[(5,.g (.int (i:Int)))]) (fun _=>[]) (fun i=>i≤l.length) (fun i=>l.length - i)
   ⟨0,[],⟨rfl,.inl rfl,.inr ⟨lk rfl,trivial⟩,rfl⟩,Nat.zero_le _⟩ ?_
  intro Rd hRd i hi
  refine ⟨fun h1=>?_,fun h1=>⟨rfl,retIs (.inl rfl)⟩⟩
  have h2:i < l.length:=by omega
  obtain ⟨_,_,_,_,ha,haI⟩:=(hI _ (List.getElem_mem h2)).inv
  have hS:=argsSize h2
  have hT:=sameExprs_any (L:=L) n l[i].args (by omega) haI ha
  refine ⟨none,rfl,?_⟩
  refine ⟨i,_,rfl,eeG h2,i,_,rfl,eeG h2,?_⟩
  refine ⟨fun h=>absurd rfl h,fun _=>?_⟩
  refine ⟨i,_,rfl,eeG h2,i,_,rfl,eeG h2,?_⟩
  refine ⟨fun h=>absurd rfl h,fun _=>?_⟩
  refine ⟨i,_,rfl,eeG h2,i,_,rfl,eeG h2,?_⟩
  refine ⟨fun h=>absurd rfl h,fun _=>?_⟩
  refine ⟨i,_,rfl,eeG h2,i,_,rfl,eeG h2,?_⟩
  refine ⟨fun h=>absurd rfl h,fun _=>?_⟩
  refine ⟨i,_,rfl,eeG h2,i,_,rfl,eeG h2,?_⟩
  refine ⟨_,_,.inl rfl,hT,rfl,?_⟩
  refine ⟨_,I64.wrap (by unfold I64;omega),?_⟩
  exact hRd _ _ _ ⟨i+1,[],⟨rfl,.inl rfl,.inr ⟨lk rfl,trivial⟩,rfl⟩,h2,by omega⟩
set_option maxRecDepth 20000 in
theorem sameStmts_any {L:Lv}:∀ (n:Nat) (l:List Barb.Stmt),SizeOf.sizeOf l≤n→(∀ x∈l,Stmt.I x)→l.length*96≤140737488351232→CT Tryz.prog (gl L) 18 [.g (.sl 5 (l.map Stmt.g)),.g (.sl 5 (l.map Stmt.g))] (Is (.g (.bool true)))
 | 0,l,h,_,_=>by cases l<;>simp at h
 | n+1,l,h,hI,hl=>by
  have ll:(l.map Stmt.g).length=l.length:=List.length_map _
  refine enter hT hF hM Tryz.func18 rfl 83 rfl (by kernel_rfl) [.tmp 4] rfl [.g (.sl 5 (l.map Stmt.g)),.g (.sl 5 (l.map Stmt.g))] rfl _ ?_
  refine ⟨fun h=>absurd rfl h,fun _=>?_⟩
  refine loopR (ι:=Nat) (fun i=>[(5,.g (.int (i:Int)))]) (fun _=>[]) (fun i=>i≤l.length) (fun i=>l.length - i)
   ⟨0,[],⟨rfl,.inl rfl,.inr ⟨lk rfl,trivial⟩,rfl⟩,Nat.zero_le _⟩ ?_
  intro Rd hRd i hi
  refine ⟨fun h1=>?_,fun h1=>⟨rfl,retIs (.inl rfl)⟩⟩
  have h2:i < l.length:=by omega
  obtain ⟨_,_,hx,hb,he,hxI,hbI,heI⟩:=(hI _ (List.getElem_mem h2)).inv
  have hS:=bodySize h2
  have hX:=sameExprs_any (L:=L) _ l[i].xs (Nat.le_refl _) hxI hx
  have hB:=sameStmts_any (L:=L) n l[i].b (by omega) hbI hb
  have hE:=sameStmts_any (L:=L) n l[i].e (by omega) heI he
  refine ⟨none,rfl,?_⟩
  refine ⟨i,_,rfl,seG h2,i,_,rfl,seG h2,?_⟩
  refine ⟨fun h=>absurd rfl h,fun _=>?_⟩
  refine ⟨i,_,rfl,seG h2,i,_,rfl,seG h2,?_⟩
  refine ⟨fun h=>absurd rfl h,fun _=>?_⟩
  refine ⟨i,_,rfl,seG h2,i,_,rfl,seG h2,?_⟩
  refine ⟨_,_,.inl rfl,hX,rfl,?_⟩
  refine ⟨i,_,rfl,seG h2,i,_,rfl,seG h2,?_⟩
  refine ⟨_,_,.inl rfl,hB,rfl,?_⟩
  refine ⟨i,_,rfl,seG h2,i,_,rfl,seG h2,?_⟩
  refine ⟨_,_,.inl rfl,hE,rfl,?_⟩
  refine ⟨_,I64.wrap (by unfold I64;omega),?_⟩
  exact hRd _ _ _ ⟨i+1,[],⟨rfl,.inl rfl,.inr ⟨lk rfl,trivial⟩,rfl⟩,h2,by omega⟩
theorem stEq_ArrE:StEq Tryz.prog 43 [1,0]:=stEq_plain (by kernel_rfl) (by kernel_rfl) (by kernel_rfl) (by kernel_rfl)
set_option maxRecDepth 20000 in
theorem sameFront_any {L:Lv} (u:Barb.Unit) (hu:u.I):CT Tryz.prog (gl L) 17 [.agg u.d,.agg u.d] (Is (.g (.bool true))):=by
 obtain ⟨_,hv,_,ha,hf,hfl⟩:=hu
 have la:(u.arrays.map Arr.g).length=u.arrays.length:=List.length_map _
 have lf:(u.funcs.map Fun.g).length=u.funcs.length:=List.length_map _
 have hTv:=sameTexts_any (L:=L) u.vars hv.2
 refine enter hT hF hM Tryz.func17 rfl 107 rfl (by kernel_rfl) [.tmp 4] rfl [.agg u.d,.agg u.d] rfl _ ?_
 refine ⟨fun x=>absurd rfl x,fun _=>?_⟩
 refine callIs (.inl rfl) hTv ?_
 refine ⟨fun x=>absurd rfl x,fun _=>?_⟩
 refine ⟨fun x=>absurd rfl x,fun _=>?_⟩
 refine loopR (ι:=Nat) (fun i=>[(5,.g (.int (i:Int))),(2,.ptr 0 0),(3,.ptr 1 0)]) (fun _=>[.blk u.d 26,.blk u.d 26]) (fun i=>i≤u.arrays.length) (fun i=>u.arrays.length - i)
  ⟨0,[.old 0,.old 1],⟨rfl,.inl rfl,.inr ⟨lk rfl,lk rfl,lk rfl,trivial⟩,rfl⟩,Nat.zero_le _⟩ ?_
 intro Rd hRd i hi
 refine ⟨fun c1=>?_,fun c1=>?_⟩
 ·have hil:i < u.arrays.length:=by omega
  refine ⟨none,rfl,i,_,rfl,gm hil,i,_,rfl,gm hil,?_⟩
  refine ⟨stEq_ArrE,?_⟩
  refine ⟨fun h=>absurd ⟨rfl,rfl,trivial⟩ h,fun _=>⟨_,I64.wrap (by unfold I64;omega),?_⟩⟩
  exact hRd _ _ _ ⟨i+1,[.old 0,.old 1],⟨rfl,.inl rfl,.inr ⟨lk rfl,lk rfl,lk rfl,trivial⟩,rfl⟩,hil,by omega⟩
 refine loopR (ι:=Nat) (fun i=>[(6,.g (.int (i:Int))),(2,.ptr 0 0),(3,.ptr 1 0)]) (fun _=>[.blk u.d 26,.blk u.d 26]) (fun i=>i≤u.funcs.length) (fun i=>u.funcs.length - i)
  ⟨0,[.old 0,.old 1],⟨rfl,.inl rfl,.inr ⟨lk rfl,lk rfl,lk rfl,trivial⟩,rfl⟩,Nat.zero_le _⟩ ?_
 intro Rj hRj j hj
 refine ⟨fun d1=>?_,fun d1=>⟨rfl,retIs (.inl rfl)⟩⟩
 have hjl:j < u.funcs.length:=by omega
 have hT:=sameTexts_any (L:=L) u.funcs[j].params (hf _ (List.getElem_mem hjl)).2.1.2
 refine ⟨none,rfl,?_⟩
 refine ⟨j,_,rfl,feG hjl,?_⟩
 refine ⟨j,_,rfl,feG hjl,?_⟩
 refine ⟨fun x=>absurd rfl x,fun _=>?_⟩
 refine ⟨j,_,rfl,feG hjl,?_⟩
 refine ⟨j,_,rfl,feG hjl,?_⟩
 refine ⟨fun x=>absurd Iff.rfl x,fun _=>?_⟩
 refine ⟨j,_,rfl,feG hjl,?_⟩
 refine ⟨j,_,rfl,feG hjl,?_⟩
 refine ⟨_,_,.inl rfl,hT,rfl,?_⟩
 refine ⟨_,I64.wrap (by unfold I64;omega),?_⟩
 exact hRj _ _ _ ⟨j+1,[.old 0,.old 1],⟨rfl,.inl rfl,.inr ⟨lk rfl,lk rfl,lk rfl,trivial⟩,rfl⟩,hjl,by omega⟩
set_option maxRecDepth 20000 in
theorem sameUnit_any {L:Lv} (u:Barb.Unit) (hu:u.I):CT Tryz.prog (gl L) 6 [.agg u.d,.agg u.d] (Is (.g (.bool true))):=by
 have hF0:=sameFront_any (L:=L) u hu
 obtain ⟨_,hv,_,ha,hf,hfl⟩:=hu
 have lf:(u.funcs.map Fun.g).length=u.funcs.length:=List.length_map _
 refine enter hT hF hM Tryz.func6 rfl 31 rfl (by kernel_rfl) [.tmp 4] rfl [.agg u.d,.agg u.d] rfl _ ?_
 refine callIs (.inl rfl) hF0 ?_
 refine loopR (ι:=Nat) (fun i=>[(5,.g (.int (i:Int))),(2,.ptr 0 0),(3,.ptr 1 0)]) (fun _=>[.blk u.d 26,.blk u.d 26]) (fun i=>i≤u.funcs.length) (fun i=>u.funcs.length - i)
  ⟨0,[.old 0,.old 1],⟨rfl,.inl rfl,.inr ⟨lk rfl,lk rfl,lk rfl,trivial⟩,rfl⟩,Nat.zero_le _⟩ ?_
 intro Rj hRj j hj
 refine ⟨fun d1=>?_,fun d1=>⟨rfl,retIs (.inl rfl)⟩⟩
 have hjl:j < u.funcs.length:=by omega
 obtain ⟨_,_,h3,h4⟩:=hf _ (List.getElem_mem hjl)
 have hT:=sameStmts_any (L:=L) _ u.funcs[j].body (Nat.le_refl _) h4 h3
 refine ⟨none,rfl,?_⟩
 refine ⟨j,_,rfl,feG hjl,?_⟩
 refine ⟨j,_,rfl,feG hjl,?_⟩
 refine ⟨_,_,.inl rfl,hT,rfl,?_⟩
 refine ⟨_,I64.wrap (by unfold I64;omega),?_⟩
 exact hRj _ _ _ ⟨j+1,[.old 0,.old 1],⟨rfl,.inl rfl,.inr ⟨lk rfl,lk rfl,lk rfl,trivial⟩,rfl⟩,hjl,by omega⟩
theorem u0_I:Barb.Unit.I u0:=by
 refine ⟨by decide,⟨by simp,by simp⟩,by simp,by simp,by simp,by simp⟩
theorem readR_I (s:Str):Barb.Unit.I (readR s).1:=by
 by_cases h0:cutE s=0
 ·have hG:=unit_gd (cutL s) (cut_ok s)
  cases h1:unitP (cutL s) with
  | bad e=>rw[readR_bad h0 h1];exact u0_I
  | ok u l' =>
   rw[h1] at hG
   by_cases h2:unitE u=0
   ·rw[readR_ok h0 h1 h2];exact hG
   ·rw[readR_check h0 h1 h2];exact u0_I
 ·rw[readR_cut h0];exact u0_I
end Go.Proofs.YtabjelabdojpkaaGreatDoor

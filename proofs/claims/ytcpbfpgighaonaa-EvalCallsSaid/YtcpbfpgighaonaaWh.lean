/-
  barbicanref: the mill in memory.
-/
import Derived.Test.YtcpbfpgighaonaaEw
namespace Go.Proofs.Ytcpbfpgighaonaa
open Go Go.Dm Go.Eng Go.RowKit Barb
abbrev kC (p:List Barb.Unit) (N:List CN) (k:Nat) (fuel end_:Int):List D:=[.g (.sl 4 (p.map Unit.g)),.g (.sl 2 (N.map CN.g)),.row k,.g (.int fuel),.g (.int end_)]
abbrev lC (k:Nat) (c:EC) (el:EL):List D:=[.g (.int (c.u:Int)),.g (.str c.f.name),.g (.bool c.f.isOpen),.g (.sl 1 (c.f.params.map strG)),.g (.sl 5 (c.f.body.map Stmt.g)),.row k,.g (.int (c.deep:Int)),.g (.bool el.back),.g (.int el.val)]
abbrev BY (p:List Barb.Unit) (N:List CN) (fuel end_:Int) (told:List Int):Heap:=[.blk (kC p N 1 fuel end_) 65,.row (told.map intG) 3 1]
abbrev YF (p:List Barb.Unit) (N:List CN) (s:ES) (c:EC) (el:EL) (fuel end_:Int):Heap :=
 [.blk (kC p N 4 fuel end_) 65,.blk (lC 3 c el) 91,.many (mz N s) [],.row (el.ps.map intG) 3 1,.row (tz s) 3 1]
abbrev YH (p:List Barb.Unit) (N:List CN) (s:ES) (c:EC) (el:EL):Heap:=YF p N s c el (s.fuel:Int) 0
abbrev ZF (p:List Barb.Unit) (N:List CN) (s:ES) (fuel end_:Int):Heap :=
 [.blk (kC p N 2 fuel end_) 65,.many (mz N s) [],.row (tz s) 3 1]
abbrev ZH (p:List Barb.Unit) (N:List CN) (s:ES):Heap:=ZF p N s (s.fuel:Int) 0
theorem endBY {R':D→Heap→Prop} {env:Dm.Env} {p:List Barb.Unit} {N:List CN} {fuel end_:Int} {told:List Int} {h hin:Heap} {d0:D} (d:D) (src:List Src) (hok:srcOk src=true) (hlen:nrOk src (BY p N fuel end_ told)=true)
  (h0:conv h src 4 (env 0)=.ptr 0 0) (hd:conv h src 4 d0=d∨Like (newN src) 4 (conv h src 4 d0) d) (hT:turnH h src=BY p N fuel end_ told) (q:R' d (BY p N fuel end_ told)):ToH [0] hin 1 [] R' h env d0:=by
 refine ⟨src,d,BY p N fuel end_ told,⟨hok,.inl hT,.inr ?_,hlen⟩,rfl,trivial,q⟩
 rw[List.map_cons,List.map_cons,List.map_cons,h0]
 exact ⟨by rcases hd with hd | hd;exact lk hd;exact hd,lk rfl,trivial⟩
theorem burnt_fn:fnOk Try.prog 75=true:=by kernel_rfl
theorem burnt_any (p:List Barb.Unit) (N:List CN) (fuel:Nat) (told:List Int) (hf:fuel≤200000):CTH Try.prog [] 75 1 (BY p N fuel 0 told) [.ptr 0 0]
  (fun out=>if fuel=0 then out=.ret (.pb ((3:Int)=0)) (BY p N (-1) 3 told) else out=.ret (.pb ((0:Int)=0)) (BY p N (fuel - 1:Nat) 0 told)):=by
 refine enterH [] hT hF hM Try.func75 rfl 30 rfl (by kernel_rfl) [.tmp 2] rfl [.ptr 0 0] rfl (BY p N fuel 0 told) [0] rfl rfl rfl 1 [] trivial _ ?_
 refine ⟨fun _=>⟨fun h=>?_,fun h=>?_⟩,fun h=>absurd rfl h⟩
 ·have h0:fuel=0:=by have h:(fuel:Int)=0:=h;omega
  subst h0
  refine ⟨by unfold I64;omega,?_⟩
  exact ⟨rfl,endBY (.pb ((3:Int)=0)) [.old 0,.old 1] rfl rfl rfl (.inl rfl) rfl (iteL rfl rfl)⟩
 ·have h0:fuel≠0:=fun e=>h (by show (fuel:Int)=0;omega)
  refine ⟨by unfold I64;omega,?_⟩
  have e:((fuel:Int) - 1)=((fuel - 1:Nat):Int):=by omega
  rw[e]
  exact ⟨rfl,endBY (.pb ((0:Int)=0)) [.old 0,.old 1] rfl rfl rfl (.inl rfl) rfl (iteR h0 rfl)⟩
abbrev fD (f:Fun):List D:=[.g (.str f.name),.g (.bool f.isOpen),.g (.sl 1 (f.params.map strG)),.g (.sl 5 (f.body.map Stmt.g))]
theorem paramAt_any (f:Fun) (hl:f.params.length≤9223372036854775807) (s:Str):CT Try.prog [] 77 [.agg (fD f),.g (.str s)] (Is (.g (.int (pIdx f s)))):=by
 have ll:(f.params.map strG).length=f.params.length:=by simp
 refine enter hT hF hM Try.func77 rfl 21 rfl (by kernel_rfl) [.tmp 4] rfl [.agg (fD f),.g (.str s)] rfl _ ?_
 refine loopR (ι:=Nat) (fun i=>[(5,.g (.int (i:Int))),(2,.ptr 0 0)]) (fun _=>[.blk (fD f) 46]) (fun i=>i≤f.params.length∧∀ j (hj:j < f.params.length),j < i→¬s=f.params[j]) (fun i=>f.params.length - i)
  ⟨0,[.old 0],⟨rfl,.inl rfl,.inr ⟨lk rfl,lk rfl,trivial⟩,rfl⟩,Nat.zero_le _,alln_0 (q:=fun x:Str=>s=x)⟩ ?_
 intro Rd hRd i ⟨hi,ha⟩
 refine ⟨fun h=>?_,fun h=>⟨rfl,retI (idx_no (alln_end (q:=fun x:Str=>s=x) (by omega) ha)).symm⟩⟩
 have h1:i < f.params.length:=by omega
 refine ⟨i,_,rfl,gm h1,?_⟩
 refine ⟨fun h2=>⟨rfl,retI (idx_at (q:=fun x:Str=>s=x) h1 ha (Eq.symm h2)).symm⟩,fun h2=>⟨_,I64.wrap (by unfold I64;omega),?_⟩⟩
 exact hRd _ _ _ ⟨i+1,[.old 0],⟨rfl,.inl rfl,.inr ⟨lk rfl,lk rfl,trivial⟩,rfl⟩,⟨h1,alln_step (q:=fun x:Str=>s=x) h1 ha (fun e=>h2 (Eq.symm e))⟩,by omega⟩
theorem varAt_any (u:Barb.Unit) (hl:u.vars.length≤9223372036854775807) (s:Str):CT Try.prog [] 78 [.agg u.d,.g (.str s)] (Is (.g (.int (vIdx u s)))):=by
 have ll:(u.vars.map strG).length=u.vars.length:=by simp
 refine enter hT hF hM Try.func78 rfl 21 rfl (by kernel_rfl) [.tmp 4] rfl [.agg u.d,.g (.str s)] rfl _ ?_
 refine loopR (ι:=Nat) (fun i=>[(5,.g (.int (i:Int))),(2,.ptr 0 0)]) (fun _=>[.blk u.d 43]) (fun i=>i≤u.vars.length∧∀ j (hj:j < u.vars.length),j < i→¬s=u.vars[j]) (fun i=>u.vars.length - i)
  ⟨0,[.old 0],⟨rfl,.inl rfl,.inr ⟨lk rfl,lk rfl,trivial⟩,rfl⟩,Nat.zero_le _,alln_0 (q:=fun x:Str=>s=x)⟩ ?_
 intro Rd hRd i ⟨hi,ha⟩
 refine ⟨fun h=>?_,fun h=>⟨rfl,retI (idx_no (alln_end (q:=fun x:Str=>s=x) (by omega) ha)).symm⟩⟩
 have h1:i < u.vars.length:=by omega
 refine ⟨i,_,rfl,gm h1,?_⟩
 refine ⟨fun h2=>⟨rfl,retI (idx_at (q:=fun x:Str=>s=x) h1 ha (Eq.symm h2)).symm⟩,fun h2=>⟨_,I64.wrap (by unfold I64;omega),?_⟩⟩
 exact hRd _ _ _ ⟨i+1,[.old 0],⟨rfl,.inl rfl,.inr ⟨lk rfl,lk rfl,trivial⟩,rfl⟩,⟨h1,alln_step (q:=fun x:Str=>s=x) h1 ha (fun e=>h2 (Eq.symm e))⟩,by omega⟩
end Go.Proofs.Ytcpbfpgighaonaa

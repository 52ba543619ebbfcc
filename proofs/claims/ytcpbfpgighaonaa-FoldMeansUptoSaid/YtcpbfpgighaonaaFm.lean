/-
  Sizes of programs, and what is folded, as the document says it: the contracts.
-/
import Derived.Test.YtcpbfpgighaonaaDn
import Derived.Test.YtcpbfpgighaonaaSi
import Derived.Test.YtcpbfpgighaonaaNq
import Derived.Test.YtcpbfpgighaonaaEt
import Derived.Test.YtcpbfpgighaonaaSe
namespace Barb
open Go Go.Dm Go.Eng Go.Proofs.Ytcpbfpgighaonaa
theorem cntE_eq (x:Expr):cntE x=1+cntEs x.args:=by cases x;rw[cntE];rfl
theorem cntS_eq (x:Stmt):cntS x=1+cntEs x.xs+cntSs x.b+cntSs x.e:=by cases x;rw[cntS];rfl
theorem cntEs_app:∀ a b:List Expr,cntEs (a++b)=cntEs a+cntEs b
 | [],b=>by simp[cntEs]
 | x :: a,b=>by rw[List.cons_append,cntEs,cntEs,cntEs_app a b];omega
theorem cntEs_next {l:List Expr} {i:Nat} (h:i < l.length):cntEs (l.take (i+1))=cntEs (l.take i)+cntE l[i]:=by rw[take_one h,cntEs_app];simp[cntEs]
theorem cntSs_next {l:List Stmt} {i:Nat} (h:i < l.length):cntSs (l.take (i+1))=cntSs (l.take i)+cntS l[i]:=by rw[take_one h,cntSs_append];simp[cntSs]
theorem cntEs_take (l:List Expr) (i:Nat):cntEs (l.take i)≤cntEs l:=by
 have h:=cntEs_app (l.take i) (l.drop i)
 rw[List.take_append_drop] at h;omega
theorem cntSs_take (l:List Stmt) (i:Nat):cntSs (l.take i)≤cntSs l:=by
 have h:=cntSs_append (l.take i) (l.drop i)
 rw[List.take_append_drop] at h;omega
theorem cntEs_at {l:List Expr} {i:Nat} (h:i < l.length):cntE l[i]≤cntEs l:=by
 have h1:=cntEs_next h
 have h2:=cntEs_take l (i+1)
 omega
theorem cntSs_at {l:List Stmt} {i:Nat} (h:i < l.length):cntS l[i]≤cntSs l:=by
 have h1:=cntSs_next h
 have h2:=cntSs_take l (i+1)
 omega
theorem cntFs_next {l:List Fun} {i:Nat} (h:i < l.length):cntFs (l.take (i+1))=cntFs (l.take i)+cntSs l[i].body:=by unfold cntFs;rw[take_one h,List.map_append,List.sum_append];simp
theorem cntP_next {l:List Unit} {i:Nat} (h:i < l.length):cntP (l.take (i+1))=cntP (l.take i)+cntFs l[i].funcs:=by unfold cntP;rw[take_one h,List.map_append,List.sum_append];simp
theorem cntFs_take (l:List Fun) (i:Nat):cntFs (l.take i)≤cntFs l:=by
 have h:cntFs l=cntFs (l.take i)+cntFs (l.drop i):=by unfold cntFs;rw[← List.sum_append,← List.map_append,List.take_append_drop]
 omega
theorem cntP_take (l:List Unit) (i:Nat):cntP (l.take i)≤cntP l:=by
 have h:cntP l=cntP (l.take i)+cntP (l.drop i):=by unfold cntP;rw[← List.sum_append,← List.map_append,List.take_append_drop]
 omega
theorem cntEs_len:∀ l:List Expr,l.length≤cntEs l
 | []=>by simp[cntEs]
 | x :: l=>by have:=cntEs_len l;have:=cntE_eq x;rw[cntEs,List.length_cons];omega
theorem cntSs_len:∀ l:List Stmt,l.length≤cntSs l
 | []=>by simp[cntSs]
 | x :: l=>by have:=cntSs_len l;have:=cntS_eq x;rw[cntSs,List.length_cons];omega
theorem noTwoEs_at:∀ {l:List Expr} {i:Nat} (h:i < l.length),noTwoEs l→noTwoE l[i]
 | [],_,h,_=>absurd h (Nat.not_lt_zero _)
 | x :: l,0,_,k=>k.1
 | x :: l,i+1,h,k=>noTwoEs_at (l:=l) (by simpa using h) k.2
theorem noTwoSs_at:∀ {l:List Stmt} {i:Nat} (h:i < l.length),noTwoSs l→noTwoS l[i]
 | [],_,h,_=>absurd h (Nat.not_lt_zero _)
 | x :: l,0,_,k=>k.1
 | x :: l,i+1,h,k=>noTwoSs_at (l:=l) (by simpa using h) k.2
theorem noTwoE_eq (x:Expr):noTwoE x↔¬(x.k=5∧(x.args.getD 0 noE).k=1∧(x.args.getD 1 noE).k=1)∧noTwoEs x.args:=by cases x;rw[noTwoE];rfl
theorem noTwoS_eq (x:Stmt):noTwoS x↔noTwoEs x.xs∧noTwoSs x.b∧noTwoSs x.e:=by cases x;rw[noTwoS];rfl
end Barb
namespace Go.Proofs.Ytcpbfpgighaonaa
open Go Go.Dm Go.Eng Go.RowKit Barb
theorem exprSize_any:∀ (n:Nat) (x:Barb.Expr),cntE x≤n→n≤1048576→CT Try.prog [] 73 [.agg x.d] (Is (.g (.int ((cntE x:Nat):Int)))):=by
 intro n
 induction n with
 | zero=>intro x h;rw[cntE_eq] at h;omega
 | succ n ih =>
  intro x hx hn
  have la:(x.args.map Expr.g).length=x.args.length:=List.length_map _
  have e:=cntE_eq x
  have hlen:=cntEs_len x.args
  refine enter hT hF hM Try.func73 rfl 21 rfl (by kernel_rfl) [.tmp 2] rfl [.agg x.d] rfl _ ?_
  refine loopR (ι:=Nat) (fun i=>[(4,.g (.int (i:Int))),(3,.g (.int ((1+cntEs (x.args.take i):Nat):Int))),(1,.ptr 0 0)]) (fun _=>[.blk x.d 98]) (fun i=>i≤x.args.length) (fun i=>x.args.length - i)
   ⟨0,[.old 0],⟨rfl,.inl rfl,.inr ⟨lk rfl,lk rfl,lk rfl,trivial⟩,rfl⟩,Nat.zero_le _⟩ ?_
  intro Rd hRd i hi
  refine ⟨fun h=>?_,fun h=>?_⟩
  ·have hl:i < x.args.length:=by omega
   have h1:=cntEs_next hl
   have h2:=cntEs_take x.args (i+1)
   refine ⟨i,_,rfl,exG hl,?_⟩
   refine callIs (.inl rfl) (ih x.args[i] (by omega) (by omega)) ?_
   refine ⟨((1+cntEs (x.args.take (i+1)):Nat):Int),(I64.wrap (by unfold I64;omega)).trans (by omega),?_⟩
   refine ⟨_,I64.wrap (by unfold I64;omega),?_⟩
   exact hRd _ _ _ ⟨i+1,[.old 0],⟨rfl,.inl rfl,.inr ⟨lk rfl,lk rfl,lk rfl,trivial⟩,rfl⟩,hl,by omega⟩
  ·have hie:i=x.args.length:=by omega
   exact ⟨rfl,retI (by rw[e,hie,List.take_length])⟩
theorem stmtsSize_any:∀ (n:Nat) (l:List Barb.Stmt),cntSs l≤n→n≤1048576→CT Try.prog [] 57 [.g (.sl 5 (l.map Stmt.g))] (Is (.g (.int ((cntSs l:Nat):Int)))):=by
 intro n
 induction n with
 | zero =>
  intro l h hn
  have hlen:=cntSs_len l
  have h0:l=[]:=List.eq_nil_of_length_eq_zero (by omega)
  subst h0
  refine enter hT hF hM Try.func57 rfl 50 rfl (by kernel_rfl) [.tmp 2] rfl [.g (.sl 5 (([]:List Barb.Stmt).map Stmt.g))] rfl _ ?_
  refine loopR (ι:=Nat) (fun i=>[(4,.g (.int (i:Int))),(3,.g (.int 0))]) (fun _=>[]) (fun i=>i=0) (fun i=>1 - i)
   ⟨0,[],⟨rfl,.inl rfl,.inr ⟨lk rfl,lk rfl,trivial⟩,rfl⟩,rfl⟩ ?_
  intro Rd hRd i hi
  subst hi
  refine ⟨fun h=>absurd h (by decide),fun h=>?_⟩
  exact ⟨rfl,retI rfl⟩
 | succ n ih =>
  intro l hl hn
  have ll:(l.map Stmt.g).length=l.length:=List.length_map _
  have hlen:=cntSs_len l
  refine enter hT hF hM Try.func57 rfl 50 rfl (by kernel_rfl) [.tmp 2] rfl [.g (.sl 5 (l.map Stmt.g))] rfl _ ?_
  refine loopR (ι:=Nat) (fun i=>[(4,.g (.int (i:Int))),(3,.g (.int ((cntSs (l.take i):Nat):Int)))]) (fun _=>[]) (fun i=>i≤l.length) (fun i=>l.length - i)
   ⟨0,[],⟨rfl,.inl rfl,.inr ⟨lk rfl,lk rfl,trivial⟩,rfl⟩,Nat.zero_le _⟩ ?_
  intro Rd hRd i hi
  refine ⟨fun h=>?_,fun h=>?_⟩
  ·have hil:i < l.length:=by omega
   have h1:=cntSs_next hil
   have h2:=cntSs_take l (i+1)
   have e:=cntS_eq l[i]
   have hb:=ih l[i].b (by omega) (by omega)
   have he:=ih l[i].e (by omega) (by omega)
   have lx:(l[i].xs.map Expr.g).length=l[i].xs.length:=List.length_map _
   have hlx:=cntEs_len l[i].xs
   refine ⟨none,rfl,?_⟩
   refine ⟨_,I64.wrap (by unfold I64;omega),?_⟩
   refine ⟨i,_,rfl,stG hil,?_⟩
   refine ⟨_,_,.inl rfl,hb,rfl,?_⟩
   refine ⟨_,I64.wrap (by unfold I64;omega),?_⟩
   refine ⟨i,_,rfl,stG hil,?_⟩
   refine ⟨_,_,.inl rfl,he,rfl,?_⟩
   refine ⟨((cntSs (l.take i)+1+cntSs l[i].b+cntSs l[i].e:Nat):Int),(I64.wrap (by unfold I64;omega)).trans (by omega),?_⟩
   refine loopR (ι:=Nat) (fun j=>[(5,.g (.int (j:Int))),(3,.g (.int ((cntSs (l.take i)+1+cntSs l[i].b+cntSs l[i].e+cntEs (l[i].xs.take j):Nat):Int)))]) (fun _=>[]) (fun j=>j≤l[i].xs.length) (fun j=>l[i].xs.length - j)
    ⟨0,[],⟨rfl,.inl rfl,.inr ⟨lk rfl,lk rfl,trivial⟩,rfl⟩,Nat.zero_le _⟩ ?_
   intro Rj hRj j hj
   refine ⟨i,_,rfl,stG hil,?_⟩
   refine ⟨fun h3=>?_,fun h3=>?_⟩
   ·have hjl:j < l[i].xs.length:=by omega
    have k1:=cntEs_next hjl
    have k2:=cntEs_take l[i].xs (j+1)
    refine ⟨i,_,rfl,stG hil,?_⟩
    refine ⟨j,_,rfl,exG hjl,?_⟩
    refine callIs (.inl rfl) (exprSize_any n l[i].xs[j] (by omega) (by omega)) ?_
    refine ⟨((cntSs (l.take i)+1+cntSs l[i].b+cntSs l[i].e+cntEs (l[i].xs.take (j+1)):Nat):Int),(I64.wrap (by unfold I64;omega)).trans (by omega),?_⟩
    refine ⟨_,I64.wrap (by unfold I64;omega),?_⟩
    exact hRj _ _ _ ⟨j+1,[],⟨rfl,.inl rfl,.inr ⟨lk rfl,lk rfl,trivial⟩,rfl⟩,hjl,by omega⟩
   ·have hje:j=l[i].xs.length:=by omega
    refine ⟨_,I64.wrap (by unfold I64;omega),?_⟩
    exact hRd _ _ _ ⟨i+1,[],⟨rfl,.inl rfl,.inr ⟨lk rfl,lkI (by rw[hje,List.take_length];omega),trivial⟩,rfl⟩,hil,by omega⟩
  ·have hie:i=l.length:=by omega
   exact ⟨rfl,retI (by rw[hie,List.take_length])⟩
theorem SizeOf_any (p:List Barb.Unit) (hp:p.length≤1000) (hf:∀ u∈p,u.funcs.length≤1000) (hc:cntP p≤1048576):CT Try.prog [] 33 [.g (.sl 4 (p.map Unit.g))] (Is (.g (.int ((cntP p:Nat):Int)))):=by
 have lp:(p.map Unit.g).length=p.length:=List.length_map _
 refine enter hT hF hM Try.func33 rfl 35 rfl (by kernel_rfl) [.tmp 2] rfl [.g (.sl 4 (p.map Unit.g))] rfl _ ?_
 refine loopR (ι:=Nat) (fun i=>[(4,.g (.int (i:Int))),(3,.g (.int ((cntP (p.take i):Nat):Int)))]) (fun _=>[]) (fun i=>i≤p.length) (fun i=>p.length - i)
  ⟨0,[],⟨rfl,.inl rfl,.inr ⟨lk rfl,lk rfl,trivial⟩,rfl⟩,Nat.zero_le _⟩ ?_
 intro Rd hRd i hi
 refine ⟨fun h=>?_,fun h=>?_⟩
 ·have hil:i < p.length:=by omega
  have h1:=cntP_next hil
  have h2:=cntP_take p (i+1)
  have hfl:=hf _ (List.getElem_mem hil)
  have lf:(p[i].funcs.map Fun.g).length=p[i].funcs.length:=List.length_map _
  refine loopR (ι:=Nat) (fun j=>[(5,.g (.int (j:Int))),(3,.g (.int ((cntP (p.take i)+cntFs (p[i].funcs.take j):Nat):Int)))]) (fun _=>[]) (fun j=>j≤p[i].funcs.length) (fun j=>p[i].funcs.length - j)
   ⟨0,[],⟨rfl,.inl rfl,.inr ⟨lk rfl,lk rfl,trivial⟩,rfl⟩,Nat.zero_le _⟩ ?_
  intro Rj hRj j hj
  refine ⟨i,_,rfl,gm hil,?_⟩
  refine ⟨fun h3=>?_,fun h3=>?_⟩
  ·have hjl:j < p[i].funcs.length:=by omega
   have k1:=cntFs_next hjl
   have k2:=cntFs_take p[i].funcs (j+1)
   refine ⟨i,_,rfl,gm hil,?_⟩
   refine ⟨j,_,rfl,fnG hjl,?_⟩
   refine callIs (.inl rfl) (stmtsSize_any 1048576 p[i].funcs[j].body (by omega) (by omega)) ?_
   refine ⟨((cntP (p.take i)+cntFs (p[i].funcs.take (j+1)):Nat):Int),(I64.wrap (by unfold I64;omega)).trans (by omega),?_⟩
   refine ⟨_,I64.wrap (by unfold I64;omega),?_⟩
   exact hRj _ _ _ ⟨j+1,[],⟨rfl,.inl rfl,.inr ⟨lk rfl,lk rfl,trivial⟩,rfl⟩,hjl,by omega⟩
  ·have hje:j=p[i].funcs.length:=by omega
   refine ⟨_,I64.wrap (by unfold I64;omega),?_⟩
   exact hRd _ _ _ ⟨i+1,[],⟨rfl,.inl rfl,.inr ⟨lk rfl,lkI (by rw[hje,List.take_length];omega),trivial⟩,rfl⟩,hil,by omega⟩
 ·have hie:i=p.length:=by omega
  exact ⟨rfl,retI (by rw[hie,List.take_length])⟩
set_option maxRecDepth 20000 in
theorem noTwos_any:∀ (m:Nat) (l:List Barb.Expr),(∀ x∈l,exprE m x=0)→l.length≤1048576→noTwoEs l→CT Try.prog [] 59 [.g (.sl 5 (l.map Expr.g))] (Is (.g (.bool true))):=by
 intro m
 induction m with
 | zero =>
  intro l h _ _
  have h0:l=[]:=by
   cases l with
   | nil=>rfl
   | cons x l=>have:=h x List.mem_cons_self;rw[exprE] at this;exact absurd this (by decide)
  subst h0
  refine enter hT hF hM Try.func59 rfl 40 rfl (by kernel_rfl) [.tmp 2] rfl [.g (.sl 5 (([]:List Barb.Expr).map Expr.g))] rfl _ ?_
  refine loopR (ι:=Nat) (fun i=>[(3,.g (.int (i:Int)))]) (fun _=>[]) (fun i=>i=0) (fun i=>1 - i)
   ⟨0,[],⟨rfl,.inl rfl,.inr ⟨lk rfl,trivial⟩,rfl⟩,rfl⟩ ?_
  intro Rd hRd i hi
  subst hi
  exact ⟨fun h=>absurd h (by decide),fun h=>⟨rfl,retIs (.inl rfl)⟩⟩
 | succ m ih =>
  intro l h hlen hno
  have ll:(l.map Expr.g).length=l.length:=List.length_map _
  refine enter hT hF hM Try.func59 rfl 40 rfl (by kernel_rfl) [.tmp 2] rfl [.g (.sl 5 (l.map Expr.g))] rfl _ ?_
  refine loopR (ι:=Nat) (fun i=>[(3,.g (.int (i:Int)))]) (fun _=>[]) (fun i=>i≤l.length) (fun i=>l.length - i)
   ⟨0,[],⟨rfl,.inl rfl,.inr ⟨lk rfl,trivial⟩,rfl⟩,Nat.zero_le _⟩ ?_
  intro Rd hRd i hi
  refine ⟨fun h1=>?_,fun h1=>⟨rfl,retIs (.inl rfl)⟩⟩
  have hl:i < l.length:=by omega
  obtain ⟨h4,hk2,hargs⟩:l[i].args.length≤4∧(l[i].k=5→l[i].args.length=2)∧∀ y∈l[i].args,exprE m y=0:=by
   have hE:=h _ (List.getElem_mem hl)
   generalize l[i]=x at hE
   obtain ⟨k,n,of,s,args⟩:=x
   obtain ⟨_,e2,e3,_,e5⟩:=exprE_inv hE
   exact ⟨e2,fun h5=>ok_two e3 h5,e5⟩
  obtain ⟨n1,n2⟩:=(noTwoE_eq _).1 (noTwoEs_at hl hno)
  have hcall:=ih l[i].args hargs (by omega) n2
  have next:∀ (env:Dm.Env) (hh:Heap),True→True:=fun _ _ h=>h
  clear next
  refine ⟨i,_,rfl,exG hl,?_⟩
  generalize l[i]=x at *
  have la:(x.args.map Expr.g).length=x.args.length:=List.length_map _
  refine ⟨fun h5=>?_,fun h5=>?_⟩
  ·have h2:=hk2 h5
   have h0:0 < x.args.length:=by omega
   have h01:1 < x.args.length:=by omega
   refine ⟨0,_,rfl,exG h0,?_⟩
   refine ⟨fun h6=>?_,fun h6=>?_⟩
   ·refine ⟨1,_,rfl,exG h01,?_⟩
    refine ⟨fun h7=>absurd ⟨h5,by simpa [h0] using h6,by simpa [h01] using h7⟩ n1,fun h7=>?_⟩
    refine callIs (.inl rfl) hcall ?_
    refine ⟨_,I64.wrap (by unfold I64;omega),?_⟩
    exact hRd _ _ _ ⟨i+1,[],⟨rfl,.inl rfl,.inr ⟨lk rfl,trivial⟩,rfl⟩,hl,by omega⟩
   ·refine callIs (.inl rfl) hcall ?_
    refine ⟨_,I64.wrap (by unfold I64;omega),?_⟩
    exact hRd _ _ _ ⟨i+1,[],⟨rfl,.inl rfl,.inr ⟨lk rfl,trivial⟩,rfl⟩,hl,by omega⟩
  ·refine callIs (.inl rfl) hcall ?_
   refine ⟨_,I64.wrap (by unfold I64;omega),?_⟩
   exact hRd _ _ _ ⟨i+1,[],⟨rfl,.inl rfl,.inr ⟨lk rfl,trivial⟩,rfl⟩,hl,by omega⟩
set_option maxRecDepth 20000 in
theorem noTwosIn_any:∀ (m:Nat) (l:List Barb.Stmt),stmtsE m l=0→cntSs l≤1048576→noTwoSs l→CT Try.prog [] 35 [.g (.sl 5 (l.map Stmt.g))] (Is (.g (.bool true))):=by
 intro m
 induction m with
 | zero=>intro l h;rw[stmtsE] at h;exact absurd h (by decide)
 | succ m ih =>
  intro l h hcnt hno
  rw[stmtsE] at h
  have hall:=firstE_all h
  have ll:(l.map Stmt.g).length=l.length:=List.length_map _
  have hlen:=cntSs_len l
  refine enter hT hF hM Try.func35 rfl 35 rfl (by kernel_rfl) [.tmp 2] rfl [.g (.sl 5 (l.map Stmt.g))] rfl _ ?_
  refine loopR (ι:=Nat) (fun i=>[(3,.g (.int (i:Int)))]) (fun _=>[]) (fun i=>i≤l.length) (fun i=>l.length - i)
   ⟨0,[],⟨rfl,.inl rfl,.inr ⟨lk rfl,trivial⟩,rfl⟩,Nat.zero_le _⟩ ?_
  intro Rd hRd i hi
  refine ⟨fun h1=>?_,fun h1=>⟨rfl,retIs (.inl rfl)⟩⟩
  have hl:i < l.length:=by omega
  obtain ⟨_,_,hxE,hbE,heE⟩:=stmtE_inv (hall _ (List.getElem_mem hl))
  obtain ⟨n1,n2,n3⟩:=(noTwoS_eq _).1 (noTwoSs_at hl hno)
  have hc:=cntSs_at hl
  have e:=cntS_eq l[i]
  have hlx:=cntEs_len l[i].xs
  have c1:=noTwos_any 12 l[i].xs hxE (by omega) n1
  have c2:=ih l[i].b hbE (by omega) n2
  have c3:=ih l[i].e heE (by omega) n3
  refine ⟨i,_,rfl,stG hl,?_⟩
  refine callIs (.inl rfl) c1 ?_
  refine ⟨i,_,rfl,stG hl,?_⟩
  refine callIs (.inl rfl) c2 ?_
  refine ⟨i,_,rfl,stG hl,?_⟩
  refine callIs (.inl rfl) c3 ?_
  refine ⟨_,I64.wrap (by unfold I64;omega),?_⟩
  exact hRd _ _ _ ⟨i+1,[],⟨rfl,.inl rfl,.inr ⟨lk rfl,trivial⟩,rfl⟩,hl,by omega⟩
theorem sameTexts_any (l:List Str) (hl:l.length≤1048576):CT Try.prog [] 58 [.g (.sl 1 (l.map strG)),.g (.sl 1 (l.map strG))] (Is (.g (.bool true))):=by
 have ll:(l.map strG).length=l.length:=List.length_map _
 refine enter hT hF hM Try.func58 rfl 26 rfl (by kernel_rfl) [.tmp 4] rfl [.g (.sl 1 (l.map strG)),.g (.sl 1 (l.map strG))] rfl _ ?_
 refine ⟨fun h=>absurd rfl h,fun _=>?_⟩
 refine loopR (ι:=Nat) (fun i=>[(5,.g (.int (i:Int)))]) (fun _=>[]) (fun i=>i≤l.length) (fun i=>l.length - i)
  ⟨0,[],⟨rfl,.inl rfl,.inr ⟨lk rfl,trivial⟩,rfl⟩,Nat.zero_le _⟩ ?_
 intro Rd hRd i hi
 refine ⟨fun h1=>?_,fun h1=>⟨rfl,retIs (.inl rfl)⟩⟩
 have h2:i < l.length:=by omega
 refine ⟨none,rfl,i,_,rfl,gm h2,i,_,rfl,gm h2,?_⟩
 refine ⟨fun h=>absurd rfl h,fun _=>⟨_,I64.wrap (by unfold I64;omega),?_⟩⟩
 exact hRd _ _ _ ⟨i+1,[],⟨rfl,.inl rfl,.inr ⟨lk rfl,trivial⟩,rfl⟩,h2,by omega⟩
theorem stEq_Arr:StEq Try.prog 75 [1,0]:=stEq_plain (by kernel_rfl) (by kernel_rfl) (by kernel_rfl) (by kernel_rfl)
set_option maxRecDepth 20000 in
theorem sameFront_any (u:Barb.Unit) (h1:u.vars.length≤1000) (h2:u.arrays.length≤1000) (h3:u.funcs.length≤1000) (h4:∀ f∈u.funcs,f.params.length≤1000):CT Try.prog [] 34 [.agg u.d,.agg (foldU u).d] (Is (.g (.bool true))):=by
 have la:(u.arrays.map Arr.g).length=u.arrays.length:=List.length_map _
 have lf:(u.funcs.map Fun.g).length=u.funcs.length:=List.length_map _
 have lg:((u.funcs.map foldF).map Fun.g).length=u.funcs.length:=by rw[List.length_map,List.length_map]
 refine enter hT hF hM Try.func34 rfl 107 rfl (by kernel_rfl) [.tmp 4] rfl [.agg u.d,.agg (foldU u).d] rfl _ ?_
 refine ⟨fun x=>absurd rfl x,fun _=>?_⟩
 refine callIs (.inl rfl) (sameTexts_any u.vars (by omega)) ?_
 refine ⟨fun x=>absurd rfl x,fun _=>?_⟩
 refine ⟨fun x=>absurd (by show ((u.funcs.map Fun.g).length:Int)=((u.funcs.map foldF).map Fun.g).length;rw[lf,lg]) x,fun _=>?_⟩
 refine loopR (ι:=Nat) (fun i=>[(5,.g (.int (i:Int))),(2,.ptr 0 0),(3,.ptr 1 0)]) (fun _=>[.blk u.d 43,.blk (foldU u).d 43]) (fun i=>i≤u.arrays.length) (fun i=>u.arrays.length - i)
  ⟨0,[.old 0,.old 1],⟨rfl,.inl rfl,.inr ⟨lk rfl,lk rfl,lk rfl,trivial⟩,rfl⟩,Nat.zero_le _⟩ ?_
 intro Rd hRd i hi
 refine ⟨fun c1=>?_,fun c1=>?_⟩
 ·have hil:i < u.arrays.length:=by omega
  refine ⟨none,rfl,i,_,rfl,gm hil,i,_,rfl,gm hil,?_⟩
  refine ⟨stEq_Arr,?_⟩
  refine ⟨fun h=>absurd ⟨rfl,rfl,trivial⟩ h,fun _=>⟨_,I64.wrap (by unfold I64;omega),?_⟩⟩
  exact hRd _ _ _ ⟨i+1,[.old 0,.old 1],⟨rfl,.inl rfl,.inr ⟨lk rfl,lk rfl,lk rfl,trivial⟩,rfl⟩,hil,by omega⟩
 refine loopR (ι:=Nat) (fun i=>[(6,.g (.int (i:Int))),(2,.ptr 0 0),(3,.ptr 1 0)]) (fun _=>[.blk u.d 43,.blk (foldU u).d 43]) (fun i=>i≤u.funcs.length) (fun i=>u.funcs.length - i)
  ⟨0,[.old 0,.old 1],⟨rfl,.inl rfl,.inr ⟨lk rfl,lk rfl,lk rfl,trivial⟩,rfl⟩,Nat.zero_le _⟩ ?_
 intro Rj hRj j hj
 refine ⟨fun d1=>?_,fun d1=>⟨rfl,retIs (.inl rfl)⟩⟩
 have hjl:j < u.funcs.length:=by omega
 have hjl2:j < (u.funcs.map foldF).length:=by rw[List.length_map];exact hjl
 have g2:((u.funcs.map foldF).map Fun.g)[j]?=some [.str u.funcs[j].name,.bool u.funcs[j].isOpen,.sl 1 (u.funcs[j].params.map strG),.sl 5 ((Barb.foldSs u.funcs[j].body).map Stmt.g)]:=by
  rw[gm hjl2,List.getElem_map,foldF_g]
 have hT:=sameTexts_any u.funcs[j].params (by have:=h4 _ (List.getElem_mem hjl);omega)
 refine ⟨none,rfl,?_⟩
 refine ⟨j,_,rfl,fnG hjl,?_⟩
 refine ⟨j,_,rfl,g2,?_⟩
 refine ⟨fun x=>absurd rfl x,fun _=>?_⟩
 refine ⟨j,_,rfl,fnG hjl,?_⟩
 refine ⟨j,_,rfl,g2,?_⟩
 refine ⟨fun x=>absurd Iff.rfl x,fun _=>?_⟩
 refine ⟨j,_,rfl,fnG hjl,?_⟩
 refine ⟨j,_,rfl,g2,?_⟩
 refine ⟨_,_,.inl rfl,hT,rfl,?_⟩
 refine ⟨_,I64.wrap (by unfold I64;omega),?_⟩
 exact hRj _ _ _ ⟨j+1,[.old 0,.old 1],⟨rfl,.inl rfl,.inr ⟨lk rfl,lk rfl,lk rfl,trivial⟩,rfl⟩,hjl,by omega⟩
theorem folded_any (p:List Barb.Unit) (hg:progE p=0) (hc:cntP p≤1048576):CT Try.prog [] 12 [.g (.sl 4 (p.map Unit.g)),.g (.sl 4 ((foldP p).map Unit.g))] (Is (.g (.bool true))):=by
 have hN:=few_of hg hc
 obtain ⟨hq,hqN⟩:=foldP_good hg hN
 have hqI:=progE_I hq hqN
 have hPF:=ProgramFault_any (foldP p) hqI
 rw[hq] at hPF
 have hcq:=foldP_cnt p
 obtain ⟨h5,hU,_,_⟩:=progE_inv hg
 obtain ⟨q5,qU,_,_⟩:=progE_inv hq
 have hS:=SizeOf_any p (by omega) (fun u hu=>by have:=(unitE_inv (hU u hu)).2.2.2.1;omega) hc
 have hSq:=SizeOf_any (foldP p) (by omega) (fun u hu=>by have:=(unitE_inv (qU u hu)).2.2.2.1;omega) (by omega)
 have lp:(p.map Unit.g).length=p.length:=List.length_map _
 have lq:((foldP p).map Unit.g).length=p.length:=by rw[List.length_map,foldP_len]
 refine enter hT hF hM Try.func12 rfl 61 rfl (by kernel_rfl) [.tmp 4] rfl [.g (.sl 4 (p.map Unit.g)),.g (.sl 4 ((foldP p).map Unit.g))] rfl _ ?_
 refine callIs (.inl rfl) hPF ?_
 refine ⟨fun x=>absurd rfl x,fun _=>?_⟩
 refine ⟨fun x=>absurd (by rw[lp,lq]) x,fun _=>?_⟩
 refine callIs (.inl rfl) hSq ?_
 refine callIs (.inl rfl) hS ?_
 refine ⟨fun x=>absurd x (by omega),fun _=>?_⟩
 refine loopR (ι:=Nat) (fun i=>[(5,.g (.int (i:Int)))]) (fun _=>[]) (fun i=>i≤p.length) (fun i=>p.length - i)
  ⟨0,[],⟨rfl,.inl rfl,.inr ⟨lk rfl,trivial⟩,rfl⟩,Nat.zero_le _⟩ ?_
 intro Rd hRd i hi
 refine ⟨fun c1=>?_,fun c1=>⟨rfl,retIs (.inl rfl)⟩⟩
 have hil:i < p.length:=by omega
 have hil2:i < (foldP p).length:=by rw[foldP_len];exact hil
 have hm:=List.getElem_mem hil
 obtain ⟨_,u1,u2,u3,_,_,u7⟩:=unitE_inv (hU _ hm)
 have eq:(foldP p)[i]=foldU p[i]:=by simp[foldP]
 have hSF:=sameFront_any p[i] (by omega) (by omega) (by omega) (fun f hf=>by have:=(funE_inv (u7 f hf)).2.1;omega)
 have g2:((foldP p).map Unit.g)[i]?=some [.str p[i].name,.sl 1 (p[i].vars.map strG),.sl 2 (p[i].arrays.map Arr.g),.sl 4 ((p[i].funcs.map foldF).map Fun.g)]:=by
  rw[gm hil2,eq,foldU_g]
 have lf:((p[i].funcs.map foldF).map Fun.g).length=p[i].funcs.length:=by rw[List.length_map,List.length_map]
 refine ⟨none,rfl,?_⟩
 refine ⟨i,_,rfl,gm hil,?_⟩
 refine ⟨i,_,rfl,g2,?_⟩
 refine ⟨_,_,.inl rfl,hSF,rfl,?_⟩
 refine loopR (ι:=Nat) (fun j=>[(6,.g (.int (j:Int)))]) (fun _=>[]) (fun j=>j≤p[i].funcs.length) (fun j=>p[i].funcs.length - j)
  ⟨0,[],⟨rfl,.inl rfl,.inr ⟨lk rfl,trivial⟩,rfl⟩,Nat.zero_le _⟩ ?_
 intro Rj hRj j hj
 refine ⟨i,_,rfl,g2,?_⟩
 refine ⟨fun d1=>?_,fun d1=>?_⟩
 ·have hjl:j < p[i].funcs.length:=by omega
  have hjl2:j < (p[i].funcs.map foldF).length:=by rw[List.length_map];exact hjl
  have g3:((p[i].funcs.map foldF).map Fun.g)[j]?=some [.str p[i].funcs[j].name,.bool p[i].funcs[j].isOpen,.sl 1 (p[i].funcs[j].params.map strG),.sl 5 ((Barb.foldSs p[i].funcs[j].body).map Stmt.g)]:=by
   rw[gm hjl2,List.getElem_map,foldF_g]
  have hE:stmtsE 12 (Barb.foldSs p[i].funcs[j].body)=0:=by
   have hm2:foldU p[i]∈foldP p:=List.mem_map.2 ⟨_,hm,rfl⟩
   have hm3:foldF p[i].funcs[j]∈(foldU p[i]).funcs:=List.mem_map.2 ⟨_,List.getElem_mem hjl,rfl⟩
   exact (funE_inv ((unitE_inv (qU _ hm2)).2.2.2.2.2.2 _ hm3)).2.2.2
  have hcb:cntSs (Barb.foldSs p[i].funcs[j].body)≤1048576:=by
   have k1:=foldSs_cnt p[i].funcs[j].body
   have k2:=cntFs_next hjl
   have k3:=cntFs_take p[i].funcs (j+1)
   have k4:=cntFs_mem hm
   omega
  refine ⟨i,_,rfl,g2,?_⟩
  refine ⟨j,_,rfl,g3,?_⟩
  refine callIs (.inl rfl) (noTwosIn_any 12 _ hE hcb (foldSs_no _)) ?_
  refine ⟨_,I64.wrap (by unfold I64;omega),?_⟩
  exact hRj _ _ _ ⟨j+1,[],⟨rfl,.inl rfl,.inr ⟨lk rfl,trivial⟩,rfl⟩,hjl,by omega⟩
 ·refine ⟨_,I64.wrap (by unfold I64;omega),?_⟩
  exact hRd _ _ _ ⟨i+1,[],⟨rfl,.inl rfl,.inr ⟨lk rfl,trivial⟩,rfl⟩,hil,by omega⟩
end Go.Proofs.Ytcpbfpgighaonaa

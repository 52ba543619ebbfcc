import Derived.Test.YthcmdjkaepclhaaDn
import Derived.Test.YthcmdjkaepclhaaSi
import Derived.Test.YthcmdjkaepclhaaNq
import Derived.Test.YthcmdjkaepclhaaEz
import Derived.Test.YthcmdjkaepclhaaSe
namespace Barb
open Go Go.Dm Go.Eng Go.Proofs.Ythcmdjkaepclhaa
theorem cntE_eq (x:Expr):cntE x=1+cntEs x.args:=by cases x;rw[cntE];rfl
theorem cntS_eq (x:Stmt):cntS x=1+cntEs x.xs+cntSs x.b+cntSs x.e:=by cases x;rw[cntS];rfl
theorem cntEs_app:∀ a b:List Expr,cntEs (a++b)=cntEs a+cntEs b
 | [],b=>by simp[cntEs]
 | x :: a,b=>by rw[List.cons_append,cntEs,cntEs,cntEs_app a b];omega
theorem cntEs_next {l:List Expr} {i:Nat} (h:i < l.length):cntEs (l.take (i+1))=cntEs (l.take i)+cntE l[i]:=by rw[take_one h,cntEs_app];simp[cntEs]
theorem cntSs_next {l:List Stmt} {i:Nat} (h:i < l.length):cntSs (l.take (i+1))=cntSs (l.take i)+cntS l[i]:=by rw[take_one h,cntSs_append];simp[cntSs]
theorem cntEs_take (l:List Expr) (i:Nat):cntEs (l.take i)<=cntEs l:=by
 have h:=cntEs_app (l.take i) (l.drop i)
 rw[List.take_append_drop] at h;omega
theorem cntSs_take (l:List Stmt) (i:Nat):cntSs (l.take i)<=cntSs l:=by
 have h:=cntSs_append (l.take i) (l.drop i)
 rw[List.take_append_drop] at h;omega
theorem cntFs_next {l:List Fun} {i:Nat} (h:i < l.length):cntFs (l.take (i+1))=cntFs (l.take i)+cntSs l[i].body:=by unfold cntFs;rw[take_one h,List.map_append,List.sum_append];simp
theorem cntP_next {l:List Unit} {i:Nat} (h:i < l.length):cntP (l.take (i+1))=cntP (l.take i)+cntFs l[i].funcs:=by unfold cntP;rw[take_one h,List.map_append,List.sum_append];simp
theorem cntFs_take (l:List Fun) (i:Nat):cntFs (l.take i)<=cntFs l:=by
 have h:cntFs l=cntFs (l.take i)+cntFs (l.drop i):=by unfold cntFs;rw[<- List.sum_append,<- List.map_append,List.take_append_drop]
 omega
theorem cntP_take (l:List Unit) (i:Nat):cntP (l.take i)<=cntP l:=by
 have h:cntP l=cntP (l.take i)+cntP (l.drop i):=by unfold cntP;rw[<- List.sum_append,<- List.map_append,List.take_append_drop]
 omega
theorem cntEs_len:∀ l:List Expr,l.length<=cntEs l
 | []=>by simp[cntEs]
 | x :: l=>by have:=cntEs_len l;have:=cntE_eq x;rw[cntEs,List.length_cons];omega
theorem cntSs_len:∀ l:List Stmt,l.length<=cntSs l
 | []=>by simp[cntSs]
 | x :: l=>by have:=cntSs_len l;have:=cntS_eq x;rw[cntSs,List.length_cons];omega
end Barb
namespace Go.Proofs.Ythcmdjkaepclhaa
open Go Go.Dm Go.Eng Go.RowKit Barb
theorem exprSize_any:∀ (n:Nat) (x:Barb.Expr),cntE x<=n->n<=1048576->CT Try.prog [] 42 [.agg x.d] (Is (.g (.int ((cntE x:Nat):Int)))):=by
 intro n
 induction n with
 | zero=>intro x h;rw[cntE_eq] at h;omega
 | succ n ih =>
  intro x hx hn
  have la:(x.args.map Expr.g).length=x.args.length:=List.length_map _
  have e:=cntE_eq x
  have hlen:=cntEs_len x.args
  refine enter hT hF hM Try.func42 rfl 21 rfl (by kernel_rfl) [.tmp 2] rfl [.agg x.d] rfl _ ?_
  refine loopR (ι:=Nat) (fun i=>[(4,.g (.int (i:Int))),(3,.g (.int ((1+cntEs (x.args.take i):Nat):Int))),(1,.ptr 0 0)]) (fun _=>[.blk x.d 97]) (fun i=>i<=x.args.length) (fun i=>x.args.length - i)
   ⟨0,[.old 0],⟨rfl,.inl rfl,.inr ⟨lk rfl,lk rfl,lk rfl,trivial⟩,rfl⟩,Nat.zero_le _⟩ ?_
  intro Rd hRd i hi
  refine ⟨fun h=>?_,fun h=>?_⟩
  ·have hl:i < x.args.length:=by omega
   have h1:=cntEs_next hl
   have h2:=cntEs_take x.args (i+1)
   refine ⟨i,_,rfl,exG hl,?_⟩
   refine callIs (.inl rfl) (ih x.args[i] (by omega) (by omega)) ?_
   refine ⟨((1+cntEs (x.args.take (i+1)):Nat):Int),(I64.wrap (by unfold I64;omega)).trans (by omega),?_⟩
   refine ⟨_,I64.wrap (by unfold I64;omega),?_⟩
   exact hRd _ _ _ ⟨i+1,[.old 0],⟨rfl,.inl rfl,.inr ⟨lk rfl,lk rfl,lk rfl,trivial⟩,rfl⟩,hl,by omega⟩
  ·have hie:i=x.args.length:=by omega
   exact ⟨rfl,retI (by rw[e,hie,List.take_length])⟩
theorem stmtsSize_any:∀ (n:Nat) (l:List Barb.Stmt),cntSs l<=n->n<=1048576->CT Try.prog [] 21 [.g (.sl 5 (l.map Stmt.g))] (Is (.g (.int ((cntSs l:Nat):Int)))):=by
 intro n
 induction n with
 | zero =>
  intro l h hn
  have hlen:=cntSs_len l
  have h0:l=[]:=List.eq_nil_of_length_eq_zero (by omega)
  subst h0
  refine enter hT hF hM Try.func21 rfl 50 rfl (by kernel_rfl) [.tmp 2] rfl [.g (.sl 5 (([]:List Barb.Stmt).map Stmt.g))] rfl _ ?_
  refine loopR (ι:=Nat) (fun i=>[(4,.g (.int (i:Int))),(3,.g (.int 0))]) (fun _=>[]) (fun i=>i=0) (fun i=>1 - i)
   ⟨0,[],⟨rfl,.inl rfl,.inr ⟨lk rfl,lk rfl,trivial⟩,rfl⟩,rfl⟩ ?_
  intro Rd hRd i hi
  subst hi
  refine ⟨fun h=>absurd h (by decide),fun h=>?_⟩
  exact ⟨rfl,retI rfl⟩
 | succ n ih =>
  intro l hl hn
  have ll:(l.map Stmt.g).length=l.length:=List.length_map _
  have hlen:=cntSs_len l
  refine enter hT hF hM Try.func21 rfl 50 rfl (by kernel_rfl) [.tmp 2] rfl [.g (.sl 5 (l.map Stmt.g))] rfl _ ?_
  refine loopR (ι:=Nat) (fun i=>[(4,.g (.int (i:Int))),(3,.g (.int ((cntSs (l.take i):Nat):Int)))]) (fun _=>[]) (fun i=>i<=l.length) (fun i=>l.length - i)
   ⟨0,[],⟨rfl,.inl rfl,.inr ⟨lk rfl,lk rfl,trivial⟩,rfl⟩,Nat.zero_le _⟩ ?_
  intro Rd hRd i hi
  refine ⟨fun h=>?_,fun h=>?_⟩
  ·have hil:i < l.length:=by omega
   have h1:=cntSs_next hil
   have h2:=cntSs_take l (i+1)
   have e:=cntS_eq l[i]
   have hb:=ih l[i].b (by omega) (by omega)
   have he:=ih l[i].e (by omega) (by omega)
   have lx:(l[i].xs.map Expr.g).length=l[i].xs.length:=List.length_map _
   have hlx:=cntEs_len l[i].xs
   refine ⟨none,rfl,?_⟩
   refine ⟨_,I64.wrap (by unfold I64;omega),?_⟩
   refine ⟨i,_,rfl,stG hil,?_⟩
   refine ⟨_,_,.inl rfl,hb,rfl,?_⟩
   refine ⟨_,I64.wrap (by unfold I64;omega),?_⟩
   refine ⟨i,_,rfl,stG hil,?_⟩
   refine ⟨_,_,.inl rfl,he,rfl,?_⟩
   refine ⟨((cntSs (l.take i)+1+cntSs l[i].b+cntSs l[i].e:Nat):Int),(I64.wrap (by unfold I64;omega)).trans (by omega),?_⟩
   refine loopR (ι:=Nat) (fun j=>[(5,.g (.int (j:Int))),(3,.g (.int ((cntSs (l.take i)+1+cntSs l[i].b+cntSs l[i].e+cntEs (l[i].xs.take j):Nat):Int)))]) (fun _=>[]) (fun j=>j<=l[i].xs.length) (fun j=>l[i].xs.length - j)
    ⟨0,[],⟨rfl,.inl rfl,.inr ⟨lk rfl,lk rfl,trivial⟩,rfl⟩,Nat.zero_le _⟩ ?_
   intro Rj hRj j hj
   refine ⟨i,_,rfl,stG hil,?_⟩
   refine ⟨fun h3=>?_,fun h3=>?_⟩
   ·have hjl:j < l[i].xs.length:=by omega
    have k1:=cntEs_next hjl
    have k2:=cntEs_take l[i].xs (j+1)
    refine ⟨i,_,rfl,stG hil,?_⟩
    refine ⟨j,_,rfl,exG hjl,?_⟩
    refine callIs (.inl rfl) (exprSize_any n l[i].xs[j] (by omega) (by omega)) ?_
    refine ⟨((cntSs (l.take i)+1+cntSs l[i].b+cntSs l[i].e+cntEs (l[i].xs.take (j+1)):Nat):Int),(I64.wrap (by unfold I64;omega)).trans (by omega),?_⟩
    refine ⟨_,I64.wrap (by unfold I64;omega),?_⟩
    exact hRj _ _ _ ⟨j+1,[],⟨rfl,.inl rfl,.inr ⟨lk rfl,lk rfl,trivial⟩,rfl⟩,hjl,by omega⟩
   ·have hje:j=l[i].xs.length:=by omega
    refine ⟨_,I64.wrap (by unfold I64;omega),?_⟩
    exact hRd _ _ _ ⟨i+1,[],⟨rfl,.inl rfl,.inr ⟨lk rfl,lkI (by rw[hje,List.take_length];omega),trivial⟩,rfl⟩,hil,by omega⟩
  ·have hie:i=l.length:=by omega
   exact ⟨rfl,retI (by rw[hie,List.take_length])⟩
theorem SizeOf_any (p:List Barb.Unit) (hp:p.length<=1000) (hf:∀ u∈p,u.funcs.length<=1000) (hc:cntP p<=1048576):CT Try.prog [] 9 [.g (.sl 4 (p.map Unit.g))] (Is (.g (.int ((cntP p:Nat):Int)))):=by
 have lp:(p.map Unit.g).length=p.length:=List.length_map _
 refine enter hT hF hM Try.func9 rfl 35 rfl (by kernel_rfl) [.tmp 2] rfl [.g (.sl 4 (p.map Unit.g))] rfl _ ?_
 refine loopR (ι:=Nat) (fun i=>[(4,.g (.int (i:Int))),(3,.g (.int ((cntP (p.take i):Nat):Int)))]) (fun _=>[]) (fun i=>i<=p.length) (fun i=>p.length - i)
  ⟨0,[],⟨rfl,.inl rfl,.inr ⟨lk rfl,lk rfl,trivial⟩,rfl⟩,Nat.zero_le _⟩ ?_
 intro Rd hRd i hi
 refine ⟨fun h=>?_,fun h=>?_⟩
 ·have hil:i < p.length:=by omega
  have h1:=cntP_next hil
  have h2:=cntP_take p (i+1)
  have hfl:=hf _ (List.getElem_mem hil)
  have lf:(p[i].funcs.map Fun.g).length=p[i].funcs.length:=List.length_map _
  refine loopR (ι:=Nat) (fun j=>[(5,.g (.int (j:Int))),(3,.g (.int ((cntP (p.take i)+cntFs (p[i].funcs.take j):Nat):Int)))]) (fun _=>[]) (fun j=>j<=p[i].funcs.length) (fun j=>p[i].funcs.length - j)
   ⟨0,[],⟨rfl,.inl rfl,.inr ⟨lk rfl,lk rfl,trivial⟩,rfl⟩,Nat.zero_le _⟩ ?_
  intro Rj hRj j hj
  refine ⟨i,_,rfl,gm hil,?_⟩
  refine ⟨fun h3=>?_,fun h3=>?_⟩
  ·have hjl:j < p[i].funcs.length:=by omega
   have k1:=cntFs_next hjl
   have k2:=cntFs_take p[i].funcs (j+1)
   refine ⟨i,_,rfl,gm hil,?_⟩
   refine ⟨j,_,rfl,fnG hjl,?_⟩
   refine callIs (.inl rfl) (stmtsSize_any 1048576 p[i].funcs[j].body (by omega) (by omega)) ?_
   refine ⟨((cntP (p.take i)+cntFs (p[i].funcs.take (j+1)):Nat):Int),(I64.wrap (by unfold I64;omega)).trans (by omega),?_⟩
   refine ⟨_,I64.wrap (by unfold I64;omega),?_⟩
   exact hRj _ _ _ ⟨j+1,[],⟨rfl,.inl rfl,.inr ⟨lk rfl,lk rfl,trivial⟩,rfl⟩,hjl,by omega⟩
  ·have hje:j=p[i].funcs.length:=by omega
   refine ⟨_,I64.wrap (by unfold I64;omega),?_⟩
   exact hRd _ _ _ ⟨i+1,[],⟨rfl,.inl rfl,.inr ⟨lk rfl,lkI (by rw[hje,List.take_length];omega),trivial⟩,rfl⟩,hil,by omega⟩
 ·have hie:i=p.length:=by omega
  exact ⟨rfl,retI (by rw[hie,List.take_length])⟩
end Go.Proofs.Ythcmdjkaepclhaa

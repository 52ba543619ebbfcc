/-
  What is read holds no more statements than tokens: plain.
-/
import Derived.Test.YtabjelabdojpkaaDoorRi
namespace Go.Proofs.YtabjelabdojpkaaDoor
open Go Go.Dm Go.Eng Barb
mutual
def cS:Barb.Stmt→Nat
 | .mk _ _ _ b e=>1+cSs b+cSs e
def cSs:List Barb.Stmt→Nat
 | []=>0
 | x :: l=>cS x+cSs l
end
theorem cSs_app:∀ l m:List Barb.Stmt,cSs (l++m)=cSs l+cSs m
 | [],m=>by simp[cSs]
 | x :: l,m=>by
  rw[List.cons_append,cSs,cSs,cSs_app l m]
  omega
theorem stmtsN_c:∀ (n:Nat) (l:List Barb.Stmt),stmtsN n l≤(cSs l:Int)
 | 0,l=>by rw[stmtsN];omega
 | n+1,l=>by
  induction l with
  | nil=>simp[stmtsN]
  | cons x l il =>
   have h1:=stmtsN_c n x.b
   have h2:=stmtsN_c n x.e
   have e:cS x=1+cSs x.b+cSs x.e:=by cases x;rfl
   rw[cSs,e]
   simp only[stmtsN,List.length_cons,List.map_cons,List.sum_cons,stmtN1_eq] at il ⊢
   omega
theorem stmts_cn {st:List Tok→PR Barb.Stmt} (hs:∀ l a l',st l=.ok a l'→cS a+l'.length≤l.length):∀ n acc l r l',stmtsP st n acc l=.ok r l'→cSs r+l'.length≤cSs acc+l.length
 | 0,acc,l,r,l',h=>by cases h
 | n+1,acc,l,r,l',h=>by
  simp only[stmtsP] at h
  split at h
  ·rename_i l1 h1
   injection h with h2 h
   subst h;subst h2
   have:=(take_some h1).2
   omega
  ·obtain ⟨x,l1,h1,h⟩:=then_ok h
   have a1:=hs _ _ _ h1
   have a2:=stmts_cn hs n _ _ _ _ h
   rw[cSs_app] at a2
   simp only[cSs] at a2
   omega
theorem block_cn {st:List Tok→PR Barb.Stmt} (hs:∀ l a l',st l=.ok a l'→cS a+l'.length≤l.length) (l:List Tok) (r:List Barb.Stmt) (l':List Tok) (h:blockP st l=.ok r l'):cSs r+l'.length+1≤l.length:=by
 unfold blockP at h
 obtain ⟨_,l1,h1,h⟩:=then_ok h
 have a1:=must_shr _ _ _ _ h1
 have a2:=stmts_cn hs _ _ _ _ _ h
 simp only[cSs] at a2
 omega
theorem do_cn {st:List Tok→PR Barb.Stmt} {ex:List Tok→PR Barb.Expr} (hs:∀ l a l',st l=.ok a l'→cS a+l'.length≤l.length) (hx:Shr ex) (l:List Tok) (a:Barb.Stmt) (l':List Tok) (h:doP st ex l=.ok a l'):cS a+l'.length≤l.length:=by
 have fin:∀ (k:Int) (s:Str) (xs:List Barb.Expr) (l l':List Tok) (a:Barb.Stmt),((ex l).then fun x l1=>(mustP [59] l1).then fun _ l2=>PR.ok (Barb.Stmt.mk k s (xs++[x]) [] []) l2)=.ok a l'→cS a+l'.length≤l.length:=fun k s xs l l' a h=>by
  obtain ⟨x,l1,h1,h⟩:=then_ok h
  obtain ⟨_,l2,h2,h⟩:=then_ok h
  injection h with h3 h
  subst h;subst h3
  have a1:=hx _ _ _ h1
  have a2:=must_shr _ _ _ _ h2
  simp only[cS,cSs]
  omega
 unfold doP at h
 split at h
 ·rename_i l1 h1
  obtain ⟨x,l2,h2,h⟩:=then_ok h
  obtain ⟨b,l3,h3,h⟩:=then_ok h
  have a1:=(take_some h1).2
  have a2:=hx _ _ _ h2
  have a3:=block_cn hs _ _ _ h3
  split at h
  ·rename_i l4 h4
   obtain ⟨c,l5,h5,h⟩:=then_ok h
   injection h with h6 h
   subst h;subst h6
   have a4:=(take_some h4).2
   have a5:=block_cn hs _ _ _ h5
   simp only[cS]
   omega
  ·injection h with h6 h
   subst h;subst h6
   simp only[cS,cSs]
   omega
 ·split at h
  ·rename_i l1 h1
   obtain ⟨x,l2,h2,h⟩:=then_ok h
   obtain ⟨b,l3,h3,h⟩:=then_ok h
   injection h with h6 h
   subst h;subst h6
   have a1:=(take_some h1).2
   have a2:=hx _ _ _ h2
   have a3:=block_cn hs _ _ _ h3
   simp only[cS,cSs]
   omega
  ·dsimp only at h
   split at h
   ·rename_i l1 h1
    have a1:=(take_some h1).2
    have:=fin _ _ _ _ _ _ h
    omega
   ·split at h
    ·rename_i l1 h1
     have a1:=(take_some h1).2
     have:=fin _ _ _ _ _ _ h
     omega
    ·obtain ⟨s,l1,h1,h⟩:=then_ok h
     have a1:=name_shr _ _ _ h1
     split at h
     ·rename_i l2 h2
      obtain ⟨x,l3,h3,h⟩:=then_ok h
      obtain ⟨_,l4,h4,h⟩:=then_ok h
      obtain ⟨_,l5,h5,h⟩:=then_ok h
      have a2:=(take_some h2).2
      have a3:=hx _ _ _ h3
      have a4:=must_shr _ _ _ _ h4
      have a5:=must_shr _ _ _ _ h5
      have:=fin _ _ _ _ _ _ h
      omega
     ·obtain ⟨_,l2,h2,h⟩:=then_ok h
      have a2:=must_shr _ _ _ _ h2
      have:=fin _ _ _ _ _ _ h
      omega
theorem stmt_cn:∀ f l a l',stmtP f l=.ok a l'→cS a+l'.length≤l.length
 | 0,l,a,l',h=>by cases h
 | f+1,l,a,l',h=>do_cn (stmt_cn f) (expr_shr f) l a l' h
def cFs (l:List Fun):Nat:=(l.map fun f=>cSs f.body).sum
theorem fun_cn (o:Bool) (l:List Tok) (f:Fun) (l':List Tok) (h:funP o l=.ok f l'):cSs f.body+l'.length≤l.length:=by
 unfold funP at h
 obtain ⟨s,l1,h1,h⟩:=then_ok h
 obtain ⟨_,l2,h2,h⟩:=then_ok h
 obtain ⟨ps,l3,h3,h⟩:=then_ok h
 obtain ⟨b,l4,h4,h⟩:=then_ok h
 injection h with h5 h
 subst h;subst h5
 have a1:=name_shr _ _ _ h1
 have a2:=must_shr _ _ _ _ h2
 have a3:=pars_shr _ _ _ _ _ h3
 have a4:=block_cn (stmt_cn 48) _ _ _ h4
 show cSs b+l4.length≤_
 omega
theorem funs_cn:∀ n acc l r l',funsP n acc l=.ok r l'→cFs r+l'.length≤cFs acc+l.length
 | 0,acc,l,r,l',h=>by cases h
 | n+1,acc,l,r,l',h=>by
  have ca:∀ (acc:List Fun) (f:Fun),cFs (acc++[f])=cFs acc+cSs f.body:=fun acc f=>by simp[cFs]
  simp only[funsP] at h
  split at h
  ·injection h with h1 h
   subst h;subst h1
   omega
  ·split at h
   ·rename_i l1 h1
    obtain ⟨f,l2,h2,h⟩:=then_ok h
    have a1:=(take_some h1).2
    have a2:=fun_cn _ _ _ _ h2
    have a3:=funs_cn n _ _ _ _ h
    rw[ca] at a3
    omega
   ·obtain ⟨_,l1,h1,h⟩:=then_ok h
    obtain ⟨f,l2,h2,h⟩:=then_ok h
    have a1:=must_shr _ _ _ _ h1
    have a2:=fun_cn _ _ _ _ h2
    have a3:=funs_cn n _ _ _ _ h
    rw[ca] at a3
    omega
theorem unit_cn {l:List Tok} {u:Barb.Unit} {l':List Tok} (hl:RdOk l) (h:unitP l=.ok u l'):cFs u.funcs≤3000:=by
 unfold unitP at h
 obtain ⟨_,l1,h1,h⟩:=then_ok h
 obtain ⟨s,l2,h2,h⟩:=then_ok h
 obtain ⟨vs,l3,h3,h⟩:=then_ok h
 obtain ⟨az,l4,h4,h⟩:=then_ok h
 obtain ⟨fs,l5,h5,h⟩:=then_ok h
 injection h with h6 h
 subst h6
 have o1:=hl.next (must_shr _) (must_mem _) h1
 have o2:=o1.next name_shr name_mem h2
 have o3:=vars_le _ _ _ _ _ o2 h3
 have o4:=arrs_le _ _ _ _ _ o3 h4
 have a5:=funs_cn _ _ _ _ _ h5
 have:=o4.1
 have e:cFs []=0:=rfl
 show cFs fs≤3000
 omega
theorem manyN_c:∀ l:List Fun,manyN l≤(cFs l:Int)
 | []=>by simp[manyN]
 | f :: l=>by
  have h1:=manyN_c l
  have h2:=stmtsN_c 12 f.body
  have e:manyN (f :: l)=stmtsN 12 f.body+manyN l:=by simp[manyN]
  have e2:cFs (f :: l)=cSs f.body+cFs l:=by simp[cFs]
  rw[e,e2]
  omega
theorem few_wrap {u:Barb.Unit} (hU:unitE u=0) (h1:manyN u.funcs≤1048576) (h0:0≤manyN u.funcs):manyN u.funcs≤300:=by
 unfold unitE at hU
 repeat' (split at hU)
 all_goals (try omega)
 rename_i h
 rw[I64.wrap (by unfold I64;omega)] at h
 omega
end Go.Proofs.YtabjelabdojpkaaDoor

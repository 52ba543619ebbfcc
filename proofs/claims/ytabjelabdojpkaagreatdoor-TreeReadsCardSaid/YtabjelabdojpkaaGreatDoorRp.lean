/-
  How a unit is read of tokens: the plain words.
-/
import Derived.Test.YtabjelabdojpkaaGreatDoorTk
namespace Go.Proofs.YtabjelabdojpkaaGreatDoor
open Go Go.Dm Go.Eng Barb

inductive PR (α:Type) where
 | ok (a:α) (l:List Tok)
 | bad (e:Int)
def PR.then {α β:Type} (r:PR α) (k:α→List Tok→PR β):PR β :=
 match r with
 | .ok a l=>k a l
 | .bad e=>.bad e
def textP:List Tok→Str
 | []=>[]
 | t :: _=>t.text
def kindP:List Tok→Int
 | []=>0
 | t :: _=>t.kind
open Classical in
noncomputable def takeP (s:Str) (l:List Tok):Option (List Tok):=if l≠[]∧textP l=s then some l.tail else none
open Classical in
noncomputable def mustP (s:Str) (l:List Tok):PR PUnit:=match takeP s l with | some l'=>.ok ⟨⟩ l' | none=>.bad 4
open Classical in
noncomputable def nameP (l:List Tok):PR Str:=if identP (textP l) then .ok (textP l) l.tail else .bad 4
noncomputable def numP (l:List Tok):PR Int:=if kindP l=2 then .ok (numR (textP l)) l.tail else .bad 4
def opsT:List Str:=[[43],[45],[42],[38],[124],[94],[60],[61,61],[60,60],[62,62]]
noncomputable def opP (s:Str):Int:=idx (fun x=>s=x) opsT+1
section
variable (ex:List Tok→PR Barb.Expr)
noncomputable def moreP:Nat→List Barb.Expr→List Tok→PR (List Barb.Expr)
 | 0,_,_=>.bad 4
 | n+1,acc,l=>match takeP [44] l with
  | some l1=>(ex l1).then fun b l2=>moreP n (acc++[b]) l2
  | none=>(mustP [41] l).then fun _ l1=>.ok acc l1
noncomputable def listP (l:List Tok):PR (List Barb.Expr):=match takeP [41] l with
 | some l1=>.ok [] l1
 | none=>(ex l).then fun a l1=>moreP ex (l1.length+1) [a] l1
noncomputable def termP (l:List Tok):PR Barb.Expr:=match takeP [40] l with
 | some l1=>(ex l1).then fun a l2=>if opP (textP l2)=0 then .bad 4 else (ex l2.tail).then fun b l3=>(mustP [41] l3).then fun _ l4=>.ok (.mk 5 (opP (textP l2)) [] [] [a,b]) l4
 | none=>if kindP l=2 then (numP l).then fun n l1=>.ok (.mk 1 n [] [] []) l1 else
  (nameP l).then fun s l1=>match takeP [91] l1 with
   | some l2=>(ex l2).then fun a l3=>(mustP [93] l3).then fun _ l4=>.ok (.mk 3 0 [] s [a]) l4
   | none=>match takeP [40] l1 with
    | some l2=>(listP ex l2).then fun xs l3=>.ok (.mk 4 0 [] s xs) l3
    | none=>match takeP [46] l1 with
     | some l2=>(nameP l2).then fun g l3=>(mustP [40] l3).then fun _ l4=>(listP ex l4).then fun xs l5=>.ok (.mk 4 0 s g xs) l5
     | none=>.ok (.mk 2 0 [] s []) l1
end
noncomputable def exprP:Nat→List Tok→PR Barb.Expr
 | 0=>fun _=>.bad 1
 | f+1=>termP (exprP f)
section
variable (st:List Tok→PR Barb.Stmt)
noncomputable def stmtsP:Nat→List Barb.Stmt→List Tok→PR (List Barb.Stmt)
 | 0,_,_=>.bad 4
 | n+1,acc,l=>match takeP [125] l with
  | some l1=>.ok acc l1
  | none=>(st l).then fun x l1=>stmtsP n (acc++[x]) l1
noncomputable def blockP (l:List Tok):PR (List Barb.Stmt):=(mustP [123] l).then fun _ l1=>stmtsP st (l1.length+1) [] l1
noncomputable def doP (ex:List Tok→PR Barb.Expr) (l:List Tok):PR Barb.Stmt:=match takeP [105,102] l with
 | some l1=>(ex l1).then fun x l2=>(blockP st l2).then fun b l3=>match takeP [101,108,115,101] l3 with
  | some l4=>(blockP st l4).then fun c l5=>.ok (.mk 3 [] [x] b c) l5
  | none=>.ok (.mk 3 [] [x] b []) l3
 | none=>match takeP [119,104,105,108,101] l with
  | some l1=>(ex l1).then fun x l2=>(blockP st l2).then fun b l3=>.ok (.mk 4 [] [x] b []) l3
  | none =>
   let fin:Int→Str→List Barb.Expr→List Tok→PR Barb.Stmt:=fun k s xs l=>(ex l).then fun x l1=>(mustP [59] l1).then fun _ l2=>.ok (.mk k s (xs++[x]) [] []) l2
   match takeP [114,101,116,117,114,110] l with
   | some l1=>fin 5 [] [] l1
   | none=>match takeP [115,97,121] l with
    | some l1=>fin 6 [] [] l1
    | none=>(nameP l).then fun s l1=>match takeP [91] l1 with
     | some l2=>(ex l2).then fun x l3=>(mustP [93] l3).then fun _ l4=>(mustP [61] l4).then fun _ l5=>fin 2 s [x] l5
     | none=>(mustP [61] l1).then fun _ l2=>fin 1 s [] l2
end
noncomputable def stmtP:Nat→List Tok→PR Barb.Stmt
 | 0=>fun _=>.bad 1
 | f+1=>doP (stmtP f) (exprP f)
noncomputable def parsP:Nat→List Str→List Tok→PR (List Str)
 | 0,_,_=>.bad 4
 | n+1,acc,l=>match takeP [41] l with
  | some l1=>.ok acc l1
  | none=>(if acc=[] then .ok ⟨⟩ l else mustP [44] l:PR PUnit).then fun _ l1=>(nameP l1).then fun s l2=>parsP n (acc++[s]) l2
noncomputable def funP (isOpen:Bool) (l:List Tok):PR Fun:=(nameP l).then fun s l1=>(mustP [40] l1).then fun _ l2=>(parsP (l2.length+1) [] l2).then fun ps l3=>(blockP (stmtP 48) l3).then fun b l4=>.ok ⟨s,isOpen,ps,b⟩ l4
noncomputable def varsP:Nat→List Str→List Tok→PR (List Str)
 | 0,_,_=>.bad 4
 | n+1,acc,l=>match takeP [118,97,114] l with
  | some l1=>(nameP l1).then fun s l2=>varsP n (acc++[s]) l2
  | none=>.ok acc l
noncomputable def arrsP:Nat→List Arr→List Tok→PR (List Arr)
 | 0,_,_=>.bad 4
 | n+1,acc,l=>match takeP [97,114,114,97,121] l with
  | some l1=>(nameP l1).then fun s l2=>(numP l2).then fun k l3=>arrsP n (acc++[⟨s,k⟩]) l3
  | none=>.ok acc l
noncomputable def funsP:Nat→List Fun→List Tok→PR (List Fun)
 | 0,_,_=>.bad 4
 | n+1,acc,l=>if l=[] then .ok acc l else
  match takeP [111,112,101,110] l with
  | some l1=>(funP true l1).then fun f l2=>funsP n (acc++[f]) l2
  | none=>(mustP [102,117,110,99] l).then fun _ l1=>(funP false l1).then fun f l2=>funsP n (acc++[f]) l2
noncomputable def unitP (l:List Tok):PR Barb.Unit:=(mustP [117,110,105,116] l).then fun _ l1=>(nameP l1).then fun s l2=>(varsP (l2.length+1) [] l2).then fun vs l3=>(arrsP (l3.length+1) [] l3).then fun as_ l4=>(funsP (l4.length+1) [] l4).then fun fs l5=>.ok ⟨s,vs,as_,fs⟩ l5
def Shr {α:Type} (p:List Tok→PR α):Prop:=∀ l a l',p l=.ok a l'→l'.length < l.length
theorem then_ok {α β:Type} {r:PR α} {k:α→List Tok→PR β} {b:β} {l:List Tok} (h:r.then k=.ok b l):∃ a l1,r=.ok a l1∧k a l1=.ok b l:=by
 cases r with
 | ok a l1=>exact ⟨a,l1,rfl,h⟩
 | bad e=>cases h
theorem take_some {s:Str} {l l':List Tok} (h:takeP s l=some l'):l'=l.tail∧l'.length+1=l.length:=by
 unfold takeP at h
 split at h
 ·rename_i hc
  injection h with h
  subst h
  refine ⟨rfl,?_⟩
  cases l with
  | nil=>exact absurd rfl hc.1
  | cons t l=>rfl
 ·cases h
theorem must_shr (s:Str):Shr (mustP s):=fun l a l' h=>by
 unfold mustP at h
 split at h
 ·rename_i l1 h1
  injection h with _ h
  subst h
  have:=(take_some h1).2
  omega
 ·cases h
theorem ident_nil:¬identP []:=fun h=>by have:=h.1.1.1;simp at this
theorem name_shr:Shr nameP:=fun l a l' h=>by
 unfold nameP at h
 split at h
 ·rename_i hi
  injection h with _ h
  subst h
  cases l with
  | nil=>exact absurd hi ident_nil
  | cons t l=>simp
 ·cases h
theorem num_shr:Shr numP:=fun l a l' h=>by
 unfold numP at h
 split at h
 ·rename_i hi
  injection h with _ h
  subst h
  cases l with
  | nil=>cases hi
  | cons t l=>simp
 ·cases h
theorem more_shr {ex:List Tok→PR Barb.Expr} (hx:Shr ex):∀ n acc,Shr (moreP ex n acc)
 | 0,acc=>fun l a l' h=>by cases h
 | n+1,acc=>fun l a l' h=>by
  simp only[moreP] at h
  split at h
  ·rename_i l1 h1
   obtain ⟨b,l2,h2,h3⟩:=then_ok h
   have a1:=(take_some h1).2
   have a2:=hx _ _ _ h2
   have a3:=more_shr hx n _ _ _ _ h3
   omega
  ·obtain ⟨_,l1,h1,h2⟩:=then_ok h
   injection h2 with _ h2
   subst h2
   exact must_shr _ _ _ _ h1
theorem list_shr {ex:List Tok→PR Barb.Expr} (hx:Shr ex):Shr (listP ex):=fun l a l' h=>by
 unfold listP at h
 split at h
 ·rename_i l1 h1
  injection h with _ h
  subst h
  have:=(take_some h1).2
  omega
 ·obtain ⟨b,l1,h1,h2⟩:=then_ok h
  have a1:=hx _ _ _ h1
  have a2:=more_shr hx _ _ _ _ _ h2
  omega
theorem term_shr {ex:List Tok→PR Barb.Expr} (hx:Shr ex):Shr (termP ex):=fun l a l' h=>by
 unfold termP at h
 split at h
 ·rename_i l1 h1
  obtain ⟨x,l2,h2,h⟩:=then_ok h
  split at h
  ·cases h
  ·obtain ⟨y,l3,h3,h⟩:=then_ok h
   obtain ⟨_,l4,h4,h⟩:=then_ok h
   injection h with _ h
   subst h
   have a1:=(take_some h1).2
   have a2:=hx _ _ _ h2
   have a3:=hx _ _ _ h3
   have a4:=must_shr _ _ _ _ h4
   rw[List.length_tail] at a3
   omega
 ·split at h
  ·obtain ⟨n,l1,h1,h⟩:=then_ok h
   injection h with _ h
   subst h
   exact num_shr _ _ _ h1
  ·obtain ⟨s,l1,h1,h⟩:=then_ok h
   have a1:=name_shr _ _ _ h1
   split at h
   ·rename_i l2 h2
    obtain ⟨x,l3,h3,h⟩:=then_ok h
    obtain ⟨_,l4,h4,h⟩:=then_ok h
    injection h with _ h
    subst h
    have a2:=(take_some h2).2
    have a3:=hx _ _ _ h3
    have a4:=must_shr _ _ _ _ h4
    omega
   ·split at h
    ·rename_i l2 h2
     obtain ⟨x,l3,h3,h⟩:=then_ok h
     injection h with _ h
     subst h
     have a2:=(take_some h2).2
     have a3:=list_shr hx _ _ _ h3
     omega
    ·split at h
     ·rename_i l2 h2
      obtain ⟨g,l3,h3,h⟩:=then_ok h
      obtain ⟨_,l4,h4,h⟩:=then_ok h
      obtain ⟨xs,l5,h5,h⟩:=then_ok h
      injection h with _ h
      subst h
      have a2:=(take_some h2).2
      have a3:=name_shr _ _ _ h3
      have a4:=must_shr _ _ _ _ h4
      have a5:=list_shr hx _ _ _ h5
      omega
     ·injection h with _ h
      subst h
      exact a1
theorem expr_shr:∀ f,Shr (exprP f)
 | 0=>fun l a l' h=>by cases h
 | f+1=>term_shr (expr_shr f)
theorem stmts_shr {st:List Tok→PR Barb.Stmt} (hs:Shr st):∀ n acc,Shr (stmtsP st n acc)
 | 0,acc=>fun l a l' h=>by cases h
 | n+1,acc=>fun l a l' h=>by
  simp only[stmtsP] at h
  split at h
  ·rename_i l1 h1
   injection h with _ h
   subst h
   have:=(take_some h1).2
   omega
  ·obtain ⟨x,l1,h1,h⟩:=then_ok h
   have a1:=hs _ _ _ h1
   have a2:=stmts_shr hs n _ _ _ _ h
   omega
theorem block_shr {st:List Tok→PR Barb.Stmt} (hs:Shr st):Shr (blockP st):=fun l a l' h=>by
 unfold blockP at h
 obtain ⟨_,l1,h1,h⟩:=then_ok h
 have a1:=must_shr _ _ _ _ h1
 have a2:=stmts_shr hs _ _ _ _ _ h
 omega
theorem do_shr {st:List Tok→PR Barb.Stmt} {ex:List Tok→PR Barb.Expr} (hs:Shr st) (hx:Shr ex):Shr (doP st ex):=fun l a l' h=>by
 have fin:∀ (k:Int) (s:Str) (xs:List Barb.Expr) (l l':List Tok) (a:Barb.Stmt),((ex l).then fun x l1=>(mustP [59] l1).then fun _ l2=>PR.ok (Barb.Stmt.mk k s (xs++[x]) [] []) l2)=.ok a l'→l'.length < l.length:=fun k s xs l l' a h=>by
  obtain ⟨x,l1,h1,h⟩:=then_ok h
  obtain ⟨_,l2,h2,h⟩:=then_ok h
  injection h with _ h
  subst h
  have a1:=hx _ _ _ h1
  have a2:=must_shr _ _ _ _ h2
  omega
 unfold doP at h
 split at h
 ·rename_i l1 h1
  obtain ⟨x,l2,h2,h⟩:=then_ok h
  obtain ⟨b,l3,h3,h⟩:=then_ok h
  have a1:=(take_some h1).2
  have a2:=hx _ _ _ h2
  have a3:=block_shr hs _ _ _ h3
  split at h
  ·rename_i l4 h4
   obtain ⟨c,l5,h5,h⟩:=then_ok h
   injection h with _ h
   subst h
   have a4:=(take_some h4).2
   have a5:=block_shr hs _ _ _ h5
   omega
  ·injection h with _ h
   subst h
   omega
 ·split at h
  ·rename_i l1 h1
   obtain ⟨x,l2,h2,h⟩:=then_ok h
   obtain ⟨b,l3,h3,h⟩:=then_ok h
   injection h with _ h
   subst h
   have a1:=(take_some h1).2
   have a2:=hx _ _ _ h2
   have a3:=block_shr hs _ _ _ h3
   omega
  ·dsimp only at h
   split at h
   ·rename_i l1 h1
    have a1:=(take_some h1).2
    have:=fin _ _ _ _ _ _ h
    omega
   ·split at h
    ·rename_i l1 h1
     have a1:=(take_some h1).2
     have:=fin _ _ _ _ _ _ h
     omega
    ·obtain ⟨s,l1,h1,h⟩:=then_ok h
     have a1:=name_shr _ _ _ h1
     split at h
     ·rename_i l2 h2
      obtain ⟨x,l3,h3,h⟩:=then_ok h
      obtain ⟨_,l4,h4,h⟩:=then_ok h
      obtain ⟨_,l5,h5,h⟩:=then_ok h
      have a2:=(take_some h2).2
      have a3:=hx _ _ _ h3
      have a4:=must_shr _ _ _ _ h4
      have a5:=must_shr _ _ _ _ h5
      have:=fin _ _ _ _ _ _ h
      omega
     ·obtain ⟨_,l2,h2,h⟩:=then_ok h
      have a2:=must_shr _ _ _ _ h2
      have:=fin _ _ _ _ _ _ h
      omega
theorem stmt_shr:∀ f,Shr (stmtP f)
 | 0=>fun l a l' h=>by cases h
 | f+1=>do_shr (stmt_shr f) (expr_shr f)
theorem pars_shr:∀ n acc,Shr (parsP n acc)
 | 0,acc=>fun l a l' h=>by cases h
 | n+1,acc=>fun l a l' h=>by
  simp only[parsP] at h
  split at h
  ·rename_i l1 h1
   injection h with _ h
   subst h
   have:=(take_some h1).2
   omega
  ·obtain ⟨_,l1,h1,h⟩:=then_ok h
   obtain ⟨s,l2,h2,h⟩:=then_ok h
   have a2:=name_shr _ _ _ h2
   have a3:=pars_shr n _ _ _ _ h
   have a1:l1.length≤l.length:=by
    split at h1
    ·injection h1 with _ h1;subst h1;exact Nat.le_refl _
    ·exact Nat.le_of_lt (must_shr _ _ _ _ h1)
   omega
theorem fun_shr (o:Bool):Shr (funP o):=fun l a l' h=>by
 unfold funP at h
 obtain ⟨s,l1,h1,h⟩:=then_ok h
 obtain ⟨_,l2,h2,h⟩:=then_ok h
 obtain ⟨ps,l3,h3,h⟩:=then_ok h
 obtain ⟨b,l4,h4,h⟩:=then_ok h
 injection h with _ h
 subst h
 have a1:=name_shr _ _ _ h1
 have a2:=must_shr _ _ _ _ h2
 have a3:=pars_shr _ _ _ _ _ h3
 have a4:=block_shr (stmt_shr 48) _ _ _ h4
 omega
theorem more_far {ex:List Tok→PR Barb.Expr} (hx:Shr ex):∀ (n:Nat) (acc:List Barb.Expr) (l:List Tok) (m:Nat),l.length < n→l.length < m→moreP ex n acc l=moreP ex m acc l
 | 0,_,l,_,h,_=>by omega
 | n+1,acc,l,0,_,h=>by omega
 | n+1,acc,l,m+1,hn,hm=>by
  simp only[moreP]
  split
  ·rename_i l1 h1
   cases h2:ex l1 with
   | bad e=>rfl
   | ok b l2 =>
    have a1:=(take_some h1).2
    have a2:=hx _ _ _ h2
    exact more_far hx n _ _ m (by omega) (by omega)
  ·rfl
theorem stmts_far {st:List Tok→PR Barb.Stmt} (hs:Shr st):∀ (n:Nat) (acc:List Barb.Stmt) (l:List Tok) (m:Nat),l.length < n→l.length < m→stmtsP st n acc l=stmtsP st m acc l
 | 0,_,l,_,h,_=>by omega
 | n+1,acc,l,0,_,h=>by omega
 | n+1,acc,l,m+1,hn,hm=>by
  simp only[stmtsP]
  split
  ·rfl
  ·cases h2:st l with
   | bad e=>rfl
   | ok b l2 =>
    have a2:=hs _ _ _ h2
    exact stmts_far hs n _ _ m (by omega) (by omega)
theorem pars_far:∀ (n:Nat) (acc:List Str) (l:List Tok) (m:Nat),l.length < n→l.length < m→parsP n acc l=parsP m acc l
 | 0,_,l,_,h,_=>by omega
 | n+1,acc,l,0,_,h=>by omega
 | n+1,acc,l,m+1,hn,hm=>by
  simp only[parsP]
  split
  ·rfl
  ·cases h1:(if acc=[] then .ok ⟨⟩ l else mustP [44] l:PR PUnit) with
   | bad e=>rfl
   | ok u l1 =>
    have a1:l1.length≤l.length:=by
     split at h1
     ·injection h1 with _ h1;subst h1;exact Nat.le_refl _
     ·exact Nat.le_of_lt (must_shr _ _ _ _ h1)
    simp only[PR.then]
    cases h2:nameP l1 with
    | bad e=>rfl
    | ok s l2 =>
     have a2:=name_shr _ _ _ h2
     exact pars_far n _ _ m (by omega) (by omega)
theorem vars_far:∀ (n:Nat) (acc:List Str) (l:List Tok) (m:Nat),l.length < n→l.length < m→varsP n acc l=varsP m acc l
 | 0,_,l,_,h,_=>by omega
 | n+1,acc,l,0,_,h=>by omega
 | n+1,acc,l,m+1,hn,hm=>by
  simp only[varsP]
  split
  ·rename_i l1 h1
   cases h2:nameP l1 with
   | bad e=>rfl
   | ok s l2 =>
    have a1:=(take_some h1).2
    have a2:=name_shr _ _ _ h2
    exact vars_far n _ _ m (by omega) (by omega)
  ·rfl
theorem arrs_far:∀ (n:Nat) (acc:List Arr) (l:List Tok) (m:Nat),l.length < n→l.length < m→arrsP n acc l=arrsP m acc l
 | 0,_,l,_,h,_=>by omega
 | n+1,acc,l,0,_,h=>by omega
 | n+1,acc,l,m+1,hn,hm=>by
  simp only[arrsP]
  split
  ·rename_i l1 h1
   cases h2:nameP l1 with
   | bad e=>rfl
   | ok s l2 =>
    simp only[PR.then]
    cases h3:numP l2 with
    | bad e=>rfl
    | ok k l3 =>
     have a1:=(take_some h1).2
     have a2:=name_shr _ _ _ h2
     have a3:=num_shr _ _ _ h3
     exact arrs_far n _ _ m (by omega) (by omega)
  ·rfl
theorem funs_far:∀ (n:Nat) (acc:List Fun) (l:List Tok) (m:Nat),l.length < n→l.length < m→funsP n acc l=funsP m acc l
 | 0,_,l,_,h,_=>by omega
 | n+1,acc,l,0,_,h=>by omega
 | n+1,acc,l,m+1,hn,hm=>by
  simp only[funsP]
  split
  ·rfl
  ·split
   ·rename_i l1 h1
    cases h2:funP true l1 with
    | bad e=>rfl
    | ok s l2 =>
     have a1:=(take_some h1).2
     have a2:=fun_shr _ _ _ _ h2
     exact funs_far n _ _ m (by omega) (by omega)
   ·cases h1:mustP [102,117,110,99] l with
    | bad e=>rfl
    | ok u l1 =>
     simp only[PR.then]
     have a1:=must_shr _ _ _ _ h1
     cases h2:funP false l1 with
     | bad e=>rfl
     | ok s l2 =>
      have a2:=fun_shr _ _ _ _ h2
      exact funs_far n _ _ m (by omega) (by omega)
def Cl {α:Type} (p:List Tok→PR α):Prop:=∀ l a l',p l=.ok a l'→∀ t∈l',t∈l
theorem take_mem {s:Str} {l l':List Tok} (h:takeP s l=some l'):∀ t∈l',t∈l:=fun t ht=>by
 rw[(take_some h).1] at ht
 exact List.mem_of_mem_tail ht
theorem must_mem (s:Str):Cl (mustP s):=fun l a l' h=>by
 unfold mustP at h
 split at h
 ·rename_i l1 h1
  injection h with _ h
  subst h
  exact take_mem h1
 ·cases h
theorem name_mem:Cl nameP:=fun l a l' h=>by
 unfold nameP at h
 split at h
 ·injection h with _ h
  subst h
  exact fun t ht=>List.mem_of_mem_tail ht
 ·cases h
theorem num_mem:Cl numP:=fun l a l' h=>by
 unfold numP at h
 split at h
 ·injection h with _ h
  subst h
  exact fun t ht=>List.mem_of_mem_tail ht
 ·cases h
theorem more_mem {ex:List Tok→PR Barb.Expr} (hx:Cl ex):∀ n acc,Cl (moreP ex n acc)
 | 0,acc=>fun l a l' h=>by cases h
 | n+1,acc=>fun l a l' h=>by
  simp only[moreP] at h
  split at h
  ·rename_i l1 h1
   obtain ⟨b,l2,h2,h3⟩:=then_ok h
   have a1:=take_mem h1
   have a2:=hx _ _ _ h2
   have a3:=more_mem hx n _ _ _ _ h3
   intro t ht
   solve_by_elim (maxDepth:=14)
  ·obtain ⟨_,l1,h1,h2⟩:=then_ok h
   injection h2 with _ h2
   subst h2
   exact must_mem _ _ _ _ h1
theorem list_mem {ex:List Tok→PR Barb.Expr} (hx:Cl ex):Cl (listP ex):=fun l a l' h=>by
 unfold listP at h
 split at h
 ·rename_i l1 h1
  injection h with _ h
  subst h
  have a0:=take_mem h1
  intro t ht
  solve_by_elim (maxDepth:=14)
 ·obtain ⟨b,l1,h1,h2⟩:=then_ok h
  have a1:=hx _ _ _ h1
  have a2:=more_mem hx _ _ _ _ _ h2
  intro t ht
  solve_by_elim (maxDepth:=14)
theorem term_mem {ex:List Tok→PR Barb.Expr} (hx:Cl ex):Cl (termP ex):=fun l a l' h=>by
 unfold termP at h
 split at h
 ·rename_i l1 h1
  obtain ⟨x,l2,h2,h⟩:=then_ok h
  split at h
  ·cases h
  ·obtain ⟨y,l3,h3,h⟩:=then_ok h
   obtain ⟨_,l4,h4,h⟩:=then_ok h
   injection h with _ h
   subst h
   have a1:=take_mem h1
   have a2:=hx _ _ _ h2
   have a3:=hx _ _ _ h3
   have a4:=must_mem _ _ _ _ h4
   have a5:=fun t (ht:t∈l2.tail)=>List.mem_of_mem_tail ht
   intro t ht
   solve_by_elim (maxDepth:=14)
 ·split at h
  ·obtain ⟨n,l1,h1,h⟩:=then_ok h
   injection h with _ h
   subst h
   exact num_mem _ _ _ h1
  ·obtain ⟨s,l1,h1,h⟩:=then_ok h
   have a1:=name_mem _ _ _ h1
   split at h
   ·rename_i l2 h2
    obtain ⟨x,l3,h3,h⟩:=then_ok h
    obtain ⟨_,l4,h4,h⟩:=then_ok h
    injection h with _ h
    subst h
    have a2:=take_mem h2
    have a3:=hx _ _ _ h3
    have a4:=must_mem _ _ _ _ h4
    intro t ht
    solve_by_elim (maxDepth:=14)
   ·split at h
    ·rename_i l2 h2
     obtain ⟨x,l3,h3,h⟩:=then_ok h
     injection h with _ h
     subst h
     have a2:=take_mem h2
     have a3:=list_mem hx _ _ _ h3
     intro t ht
     solve_by_elim (maxDepth:=14)
    ·split at h
     ·rename_i l2 h2
      obtain ⟨g,l3,h3,h⟩:=then_ok h
      obtain ⟨_,l4,h4,h⟩:=then_ok h
      obtain ⟨xs,l5,h5,h⟩:=then_ok h
      injection h with _ h
      subst h
      have a2:=take_mem h2
      have a3:=name_mem _ _ _ h3
      have a4:=must_mem _ _ _ _ h4
      have a5:=list_mem hx _ _ _ h5
      intro t ht
      solve_by_elim (maxDepth:=14)
     ·injection h with _ h
      subst h
      exact a1
theorem expr_mem:∀ f,Cl (exprP f)
 | 0=>fun l a l' h=>by cases h
 | f+1=>term_mem (expr_mem f)
theorem stmts_mem {st:List Tok→PR Barb.Stmt} (hs:Cl st):∀ n acc,Cl (stmtsP st n acc)
 | 0,acc=>fun l a l' h=>by cases h
 | n+1,acc=>fun l a l' h=>by
  simp only[stmtsP] at h
  split at h
  ·rename_i l1 h1
   injection h with _ h
   subst h
   have a0:=take_mem h1
   intro t ht
   solve_by_elim (maxDepth:=14)
  ·obtain ⟨x,l1,h1,h⟩:=then_ok h
   have a1:=hs _ _ _ h1
   have a2:=stmts_mem hs n _ _ _ _ h
   intro t ht
   solve_by_elim (maxDepth:=14)
theorem block_mem {st:List Tok→PR Barb.Stmt} (hs:Cl st):Cl (blockP st):=fun l a l' h=>by
 unfold blockP at h
 obtain ⟨_,l1,h1,h⟩:=then_ok h
 have a1:=must_mem _ _ _ _ h1
 have a2:=stmts_mem hs _ _ _ _ _ h
 intro t ht
 solve_by_elim (maxDepth:=14)
theorem do_mem {st:List Tok→PR Barb.Stmt} {ex:List Tok→PR Barb.Expr} (hs:Cl st) (hx:Cl ex):Cl (doP st ex):=fun l a l' h=>by
 have fin:∀ (k:Int) (s:Str) (xs:List Barb.Expr) (l l':List Tok) (a:Barb.Stmt),((ex l).then fun x l1=>(mustP [59] l1).then fun _ l2=>PR.ok (Barb.Stmt.mk k s (xs++[x]) [] []) l2)=.ok a l'→∀ t∈l',t∈l:=fun k s xs l l' a h=>by
  obtain ⟨x,l1,h1,h⟩:=then_ok h
  obtain ⟨_,l2,h2,h⟩:=then_ok h
  injection h with _ h
  subst h
  have a1:=hx _ _ _ h1
  have a2:=must_mem _ _ _ _ h2
  intro t ht
  solve_by_elim (maxDepth:=14)
 unfold doP at h
 split at h
 ·rename_i l1 h1
  obtain ⟨x,l2,h2,h⟩:=then_ok h
  obtain ⟨b,l3,h3,h⟩:=then_ok h
  have a1:=take_mem h1
  have a2:=hx _ _ _ h2
  have a3:=block_mem hs _ _ _ h3
  split at h
  ·rename_i l4 h4
   obtain ⟨c,l5,h5,h⟩:=then_ok h
   injection h with _ h
   subst h
   have a4:=take_mem h4
   have a5:=block_mem hs _ _ _ h5
   intro t ht
   solve_by_elim (maxDepth:=14)
  ·injection h with _ h
   subst h
   intro t ht
   solve_by_elim (maxDepth:=14)
 ·split at h
  ·rename_i l1 h1
   obtain ⟨x,l2,h2,h⟩:=then_ok h
   obtain ⟨b,l3,h3,h⟩:=then_ok h
   injection h with _ h
   subst h
   have a1:=take_mem h1
   have a2:=hx _ _ _ h2
   have a3:=block_mem hs _ _ _ h3
   intro t ht
   solve_by_elim (maxDepth:=14)
  ·dsimp only at h
   split at h
   ·rename_i l1 h1
    have a1:=take_mem h1
    have a9:=fin _ _ _ _ _ _ h
    intro t ht
    solve_by_elim (maxDepth:=14)
   ·split at h
    ·rename_i l1 h1
     have a1:=take_mem h1
     have a9:=fin _ _ _ _ _ _ h
     intro t ht
     solve_by_elim (maxDepth:=14)
    ·obtain ⟨s,l1,h1,h⟩:=then_ok h
     have a1:=name_mem _ _ _ h1
     split at h
     ·rename_i l2 h2
      obtain ⟨x,l3,h3,h⟩:=then_ok h
      obtain ⟨_,l4,h4,h⟩:=then_ok h
      obtain ⟨_,l5,h5,h⟩:=then_ok h
      have a2:=take_mem h2
      have a3:=hx _ _ _ h3
      have a4:=must_mem _ _ _ _ h4
      have a5:=must_mem _ _ _ _ h5
      have a9:=fin _ _ _ _ _ _ h
      intro t ht
      solve_by_elim (maxDepth:=14)
     ·obtain ⟨_,l2,h2,h⟩:=then_ok h
      have a2:=must_mem _ _ _ _ h2
      have a9:=fin _ _ _ _ _ _ h
      intro t ht
      solve_by_elim (maxDepth:=14)
theorem stmt_mem:∀ f,Cl (stmtP f)
 | 0=>fun l a l' h=>by cases h
 | f+1=>do_mem (stmt_mem f) (expr_mem f)
theorem pars_mem:∀ n acc,Cl (parsP n acc)
 | 0,acc=>fun l a l' h=>by cases h
 | n+1,acc=>fun l a l' h=>by
  simp only[parsP] at h
  split at h
  ·rename_i l1 h1
   injection h with _ h
   subst h
   have a0:=take_mem h1
   intro t ht
   solve_by_elim (maxDepth:=14)
  ·obtain ⟨_,l1,h1,h⟩:=then_ok h
   obtain ⟨s,l2,h2,h⟩:=then_ok h
   have a2:=name_mem _ _ _ h2
   have a3:=pars_mem n _ _ _ _ h
   have a1:∀ t∈l1,t∈l:=by
    split at h1
    ·injection h1 with _ h1;subst h1;exact fun t ht=>ht
    ·exact must_mem _ _ _ _ h1
   intro t ht
   solve_by_elim (maxDepth:=14)
theorem fun_mem (o:Bool):Cl (funP o):=fun l a l' h=>by
 unfold funP at h
 obtain ⟨s,l1,h1,h⟩:=then_ok h
 obtain ⟨_,l2,h2,h⟩:=then_ok h
 obtain ⟨ps,l3,h3,h⟩:=then_ok h
 obtain ⟨b,l4,h4,h⟩:=then_ok h
 injection h with _ h
 subst h
 have a1:=name_mem _ _ _ h1
 have a2:=must_mem _ _ _ _ h2
 have a3:=pars_mem _ _ _ _ _ h3
 have a4:=block_mem (stmt_mem 48) _ _ _ h4
 intro t ht
 solve_by_elim (maxDepth:=14)
end Go.Proofs.YtabjelabdojpkaaGreatDoor

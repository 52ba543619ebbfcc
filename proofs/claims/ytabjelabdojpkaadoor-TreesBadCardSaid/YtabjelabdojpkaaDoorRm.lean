/-
  How a unit is read, told so that it can be reckoned.
-/
import Derived.Test.YtabjelabdojpkaaDoorRi
namespace Go.Proofs.YtabjelabdojpkaaDoor
open Go Go.Dm Go.Eng Barb
instance (c:UInt8):Decidable (digP c):=by unfold digP;infer_instance
theorem isNum_iff (s:Str):isNum s↔(s.all (fun c=>decide (digP c))=true∧s≠[])∧(s.length=1∨s[0]?≠some 48)∧valN s≤65535:=by
 constructor
 ·rintro ⟨n,hn,rfl⟩
  obtain ⟨h1,h2,h3⟩:=decDigits_all n
  refine ⟨⟨by rw[List.all_eq_true];exact fun c hc=>by simpa using h1 c hc,h3⟩,?_,by omega⟩
  by_cases h:1 < (Lib.decDigits n).length
  ·exact .inr (decDigits_head n h)
  ·have:=List.length_pos_iff.2 h3
   exact .inl (by omega)
 ·rintro ⟨⟨h1,h2⟩,h3,h4⟩
  rw[List.all_eq_true] at h1
  exact ⟨valN s,h4,(digits_back s (fun c hc=>by simpa using h1 c hc) h2 h3).symm⟩
instance (s:Str):Decidable (isNum s):=decidable_of_iff _ (isNum_iff s).symm
def numBC (s:Str):Bool:=decide (isNum s)
def numRC (s:Str):Int:=if isNum s then ((valN s:Nat):Int) else 0
theorem numB_eq (s:Str):numB s=numBC s:=by unfold numB numBC;by_cases h:isNum s<;>simp[h]
theorem numR_eq (s:Str):numR s=numRC s:=by unfold numR numRC;by_cases h:isNum s<;>simp[h]
def wordC (s:Str):Bool:=match s with
 | []=>false
 | c :: r=>decide (lowc c) && r.all chrA && decide (r.length≤7)
theorem word_iff (s:Str):wordP s↔wordC s=true:=by
 unfold wordP wordC
 cases s with
 | nil=>simp
 | cons c r =>
  simp only[Bool.and_eq_true,decide_eq_true_eq,List.all_eq_true]
  constructor
  ·rintro ⟨⟨_,h1⟩,h2⟩
   refine ⟨⟨?_,fun x hx=>?_⟩,by simpa using h1⟩
   ·have:=h2 0 (by simp)
    rcases this with h | ⟨h,_⟩
    ·exact h
    ·exact absurd rfl h
   ·obtain ⟨j,hj,rfl⟩:=List.mem_iff_getElem.1 hx
    have:=h2 (j+1) (by simpa using hj)
    unfold chrOk at this
    rw[List.getElem_cons_succ] at this
    unfold chrA
    rcases this with h | ⟨_,h⟩
    ·simp[h]
    ·simp[h]
  ·rintro ⟨⟨h1,h2⟩,h3⟩
   refine ⟨⟨by simp,by simpa using h3⟩,fun j hj=>?_⟩
   cases j with
   | zero=>exact .inl h1
   | succ j =>
    have h:=h2 (r[j]'(by simpa using hj)) (List.getElem_mem _)
    unfold chrA at h
    unfold chrOk
    rw[List.getElem_cons_succ]
    rcases of_decide_eq_true h with h | h
    ·exact .inl h
    ·exact .inr ⟨by omega,h⟩
instance (s:Str):Decidable (wordP s):=decidable_of_iff _ (word_iff s).symm
instance (s:Str):Decidable (identP s):=by unfold identP;infer_instance
def tokAtC (s:Str):Option Tok :=
 if runS s=0 then (if signOf s=[] then none else some ⟨3,signOf s⟩)
 else if numBC (s.take (runS s))=true then some ⟨2,s.take (runS s)⟩
 else if wordP (s.take (runS s)) then some ⟨1,s.take (runS s)⟩ else none
theorem tokAt_eq (s:Str):tokAt s=tokAtC s:=by
 unfold tokAt tokAtC
 rw[numB_eq]
 by_cases h1:runS s=0
 ·simp only[if_pos h1]
 ·simp only[if_neg h1]
  by_cases h2:numBC (s.take (runS s))=true
  ·simp only[if_pos h2]
  ·simp only[if_neg h2]
   by_cases h3:wordP (s.take (runS s))<;>simp[h3]
def cutC:Nat→Str→Option (List Tok)
 | _,[]=>some []
 | 0,_=>none
 | f+1,c :: s=>if blankA c then cutC f s else
  match tokAtC (c :: s) with
  | none=>none
  | some t=>match cutC f ((c :: s).drop t.text.length) with
   | none=>none
   | some l=>some (t :: l)
theorem cut_eq:∀ (f:Nat) (s:Str),cutO f s=cutC f s
 | 0,[]=>rfl
 | _+1,[]=>rfl
 | 0,_ :: _=>rfl
 | f+1,c :: s=>by
  unfold cutO cutC
  rw[cut_eq f s,tokAt_eq]
  split
  ·rfl
  ·cases h:tokAtC (c :: s) with
   | none=>rfl
   | some t =>
    dsimp only
    rw[cut_eq f]
    cases cutC f ((c :: s).drop t.text.length)<;>rfl
def takeC (s:Str):List Tok→Option (List Tok)
 | []=>none
 | t :: r=>if t.text=s then some r else none
theorem take_eq (s:Str) (l:List Tok):takeP s l=takeC s l:=by
 unfold takeP takeC
 cases l with
 | nil=>simp
 | cons t r=>by_cases h:t.text=s<;>simp[textP,h]
def mustC (s:Str) (l:List Tok):PR PUnit:=match takeC s l with | some l'=>.ok ⟨⟩ l' | none=>.bad 4
theorem must_eq (s:Str) (l:List Tok):mustP s l=mustC s l:=by unfold mustP mustC;rw[take_eq];rfl
def nameC (l:List Tok):PR Str:=if identP (textP l) then .ok (textP l) l.tail else .bad 4
theorem name_eq (l:List Tok):nameP l=nameC l:=by unfold nameP nameC;by_cases h:identP (textP l)<;>simp[h]
def numPC (l:List Tok):PR Int:=if kindP l=2 then .ok (numRC (textP l)) l.tail else .bad 4
theorem numP_eq (l:List Tok):numP l=numPC l:=by unfold numP numPC;rw[numR_eq]
def idxC (s:Str):List Str→Int→Int
 | [],_=>-1
 | x :: l,i=>if s=x then i else idxC s l (i+1)
theorem idx_eq (s:Str):∀ (l:List Str) (i:Nat),idxFrom (fun x=>s=x) l i=idxC s l i
 | [],i=>rfl
 | x :: l,i=>by
  unfold idxFrom idxC
  by_cases h:s=x
  ·simp[h]
  ·simp only[if_neg h]
   exact idx_eq s l (i+1)
def opC (s:Str):Int:=idxC s opsT 0+1
theorem op_eq (s:Str):opP s=opC s:=by unfold opP opC idx;rw[idx_eq];rfl
section
variable (ex:List Tok→PR Barb.Expr)
def moreC:Nat→List Barb.Expr→List Tok→PR (List Barb.Expr)
 | 0,_,_=>.bad 4
 | n+1,acc,l=>match takeC [44] l with
  | some l1=>(ex l1).then fun b l2=>moreC n (acc++[b]) l2
  | none=>(mustC [41] l).then fun _ l1=>.ok acc l1
theorem more_eq:∀ n acc l,moreP ex n acc l=moreC ex n acc l
 | 0,_,_=>rfl
 | n+1,acc,l=>by
  unfold moreP moreC
  simp only[take_eq,must_eq,more_eq n]
  rfl
def listC (l:List Tok):PR (List Barb.Expr):=match takeC [41] l with
 | some l1=>.ok [] l1
 | none=>(ex l).then fun a l1=>moreC ex (l1.length+1) [a] l1
theorem list_eq (l:List Tok):listP ex l=listC ex l:=by
 unfold listP listC
 simp only[take_eq,more_eq]
 rfl
def termC (l:List Tok):PR Barb.Expr:=match takeC [40] l with
 | some l1=>(ex l1).then fun a l2=>if opC (textP l2)=0 then .bad 4 else (ex l2.tail).then fun b l3=>(mustC [41] l3).then fun _ l4=>.ok (.mk 5 (opC (textP l2)) [] [] [a,b]) l4
 | none=>if kindP l=2 then (numPC l).then fun n l1=>.ok (.mk 1 n [] [] []) l1 else
  (nameC l).then fun s l1=>match takeC [91] l1 with
   | some l2=>(ex l2).then fun a l3=>(mustC [93] l3).then fun _ l4=>.ok (.mk 3 0 [] s [a]) l4
   | none=>match takeC [40] l1 with
    | some l2=>(listC ex l2).then fun xs l3=>.ok (.mk 4 0 [] s xs) l3
    | none=>match takeC [46] l1 with
     | some l2=>(nameC l2).then fun g l3=>(mustC [40] l3).then fun _ l4=>(listC ex l4).then fun xs l5=>.ok (.mk 4 0 s g xs) l5
     | none=>.ok (.mk 2 0 [] s []) l1
theorem term_eq (l:List Tok):termP ex l=termC ex l:=by
 unfold termP termC
 simp only[take_eq,must_eq,name_eq,numP_eq,op_eq,list_eq]
 rfl
end
def exprC:Nat→List Tok→PR Barb.Expr
 | 0=>fun _=>.bad 1
 | f+1=>termC (exprC f)
theorem expr_eq:∀ f,exprP f=exprC f
 | 0=>rfl
 | f+1=>by
  unfold exprP exprC
  rw[expr_eq f]
  exact funext (term_eq _)
section
variable (st:List Tok→PR Barb.Stmt)
def stmtsC:Nat→List Barb.Stmt→List Tok→PR (List Barb.Stmt)
 | 0,_,_=>.bad 4
 | n+1,acc,l=>match takeC [125] l with
  | some l1=>.ok acc l1
  | none=>(st l).then fun x l1=>stmtsC n (acc++[x]) l1
theorem stmts_eq:∀ n acc l,stmtsP st n acc l=stmtsC st n acc l
 | 0,_,_=>rfl
 | n+1,acc,l=>by
  unfold stmtsP stmtsC
  simp only[take_eq,stmts_eq n]
  rfl
def blockC (l:List Tok):PR (List Barb.Stmt):=(mustC [123] l).then fun _ l1=>stmtsC st (l1.length+1) [] l1
theorem block_eq (l:List Tok):blockP st l=blockC st l:=by
 unfold blockP blockC
 simp only[must_eq,stmts_eq]
def finC (ex:List Tok→PR Barb.Expr) (k:Int) (s:Str) (xs:List Barb.Expr) (l:List Tok):PR Barb.Stmt:=(ex l).then fun x l1=>(mustC [59] l1).then fun _ l2=>.ok (.mk k s (xs++[x]) [] []) l2
def doC (ex:List Tok→PR Barb.Expr) (l:List Tok):PR Barb.Stmt:=match takeC [105,102] l with
 | some l1=>(ex l1).then fun x l2=>(blockC st l2).then fun b l3=>match takeC [101,108,115,101] l3 with
  | some l4=>(blockC st l4).then fun c l5=>.ok (.mk 3 [] [x] b c) l5
  | none=>.ok (.mk 3 [] [x] b []) l3
 | none=>match takeC [119,104,105,108,101] l with
  | some l1=>(ex l1).then fun x l2=>(blockC st l2).then fun b l3=>.ok (.mk 4 [] [x] b []) l3
  | none =>
   match takeC [114,101,116,117,114,110] l with
   | some l1=>finC ex 5 [] [] l1
   | none=>match takeC [115,97,121] l with
    | some l1=>finC ex 6 [] [] l1
    | none=>(nameC l).then fun s l1=>match takeC [91] l1 with
     | some l2=>(ex l2).then fun x l3=>(mustC [93] l3).then fun _ l4=>(mustC [61] l4).then fun _ l5=>finC ex 2 s [x] l5
     | none=>(mustC [61] l1).then fun _ l2=>finC ex 1 s [] l2
theorem do_eq (ex:List Tok→PR Barb.Expr) (l:List Tok):doP st ex l=doC st ex l:=by
 unfold doP doC finC
 simp only[take_eq,must_eq,name_eq,block_eq]
 rfl
end
def stmtC:Nat→List Tok→PR Barb.Stmt
 | 0=>fun _=>.bad 1
 | f+1=>doC (stmtC f) (exprC f)
theorem stmt_eq:∀ f,stmtP f=stmtC f
 | 0=>rfl
 | f+1=>by
  unfold stmtP stmtC
  rw[stmt_eq f,expr_eq f]
  exact funext (do_eq _ _)
def parsC:Nat→List Str→List Tok→PR (List Str)
 | 0,_,_=>.bad 4
 | n+1,acc,l=>match takeC [41] l with
  | some l1=>.ok acc l1
  | none=>(if acc=[] then .ok ⟨⟩ l else mustC [44] l:PR PUnit).then fun _ l1=>(nameC l1).then fun s l2=>parsC n (acc++[s]) l2
theorem pars_eq:∀ n acc l,parsP n acc l=parsC n acc l
 | 0,_,_=>rfl
 | n+1,acc,l=>by
  unfold parsP parsC
  simp only[take_eq,must_eq,name_eq,pars_eq n]
  cases takeC [41] l with
  | some l1=>rfl
  | none=>rfl
def funC (isOpen:Bool) (l:List Tok):PR Fun:=(nameC l).then fun s l1=>(mustC [40] l1).then fun _ l2=>(parsC (l2.length+1) [] l2).then fun ps l3=>(blockC (stmtC 48) l3).then fun b l4=>.ok ⟨s,isOpen,ps,b⟩ l4
theorem fun_eq (o:Bool) (l:List Tok):funP o l=funC o l:=by
 unfold funP funC
 simp only[must_eq,name_eq,pars_eq,block_eq,stmt_eq]
def varsC:Nat→List Str→List Tok→PR (List Str)
 | 0,_,_=>.bad 4
 | n+1,acc,l=>match takeC [118,97,114] l with
  | some l1=>(nameC l1).then fun s l2=>varsC n (acc++[s]) l2
  | none=>.ok acc l
theorem vars_eq:∀ n acc l,varsP n acc l=varsC n acc l
 | 0,_,_=>rfl
 | n+1,acc,l=>by
  unfold varsP varsC
  simp only[take_eq,name_eq,vars_eq n]
  rfl
def arrsC:Nat→List Arr→List Tok→PR (List Arr)
 | 0,_,_=>.bad 4
 | n+1,acc,l=>match takeC [97,114,114,97,121] l with
  | some l1=>(nameC l1).then fun s l2=>(numPC l2).then fun k l3=>arrsC n (acc++[⟨s,k⟩]) l3
  | none=>.ok acc l
theorem arrs_eq:∀ n acc l,arrsP n acc l=arrsC n acc l
 | 0,_,_=>rfl
 | n+1,acc,l=>by
  unfold arrsP arrsC
  simp only[take_eq,name_eq,numP_eq,arrs_eq n]
  rfl
def funsC:Nat→List Fun→List Tok→PR (List Fun)
 | 0,_,_=>.bad 4
 | _+1,acc,[]=>.ok acc []
 | n+1,acc,t :: r =>
  match takeC [111,112,101,110] (t :: r) with
  | some l1=>(funC true l1).then fun f l2=>funsC n (acc++[f]) l2
  | none=>(mustC [102,117,110,99] (t :: r)).then fun _ l1=>(funC false l1).then fun f l2=>funsC n (acc++[f]) l2
theorem funs_eq:∀ n acc l,funsP n acc l=funsC n acc l
 | 0,_,_=>rfl
 | n+1,acc,[]=>by
  unfold funsP funsC
  rw[if_pos rfl]
 | n+1,acc,t :: r=>by
  unfold funsP funsC
  rw[if_neg (by simp)]
  simp only[take_eq,must_eq,fun_eq,funs_eq n]
  rfl
def unitC (l:List Tok):PR Barb.Unit:=(mustC [117,110,105,116] l).then fun _ l1=>(nameC l1).then fun s l2=>(varsC (l2.length+1) [] l2).then fun vs l3=>(arrsC (l3.length+1) [] l3).then fun as_ l4=>(funsC (l4.length+1) [] l4).then fun fs l5=>.ok ⟨s,vs,as_,fs⟩ l5
theorem unit_eq (l:List Tok):unitP l=unitC l:=by
 unfold unitP unitC
 simp only[must_eq,name_eq,vars_eq,arrs_eq,funs_eq]
def badC (s:Str):Int:=match cutC s.length s with
 | none=>4
 | some l=>match unitC l with
  | .ok _ _=>0
  | .bad e=>e
theorem bad_read {s:Str} (hs:¬3000 < s.length) (h:badC s≠0):readR s=(u0,badC s):=by
 unfold badC at h ⊢
 cases hc:cutC s.length s with
 | none =>
  have h1:=cut_no hs (show cutF s=none from (cut_eq _ _).trans hc)
  have h2:=readR_cut (s:=s) (by rw[h1.1];decide)
  rw[h1.1] at h2
  exact h2
 | some l =>
  have h1:=cut_yes hs (show cutF s=some l from (cut_eq _ _).trans hc)
  rw[hc] at h
  dsimp only at h ⊢
  cases hu:unitC l with
  | ok u l'=>rw[hu] at h;exact absurd rfl h
  | bad e=>exact readR_bad h1.1 (by rw[h1.2,unit_eq];exact hu)
end Go.Proofs.YtabjelabdojpkaaDoor

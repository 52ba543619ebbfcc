/-
  Units as texts: what is shown: plain.
-/
import Derived.Test.YtabjelabdojpkaaDoorUf
import Derived.Test.YtabjelabdojpkaaDoorNu
import Derived.Lib.Join
namespace Go.Proofs.YtabjelabdojpkaaDoor
open Go Go.Dm Go.Eng Barb

def opsL:List Str:=[[43],[45],[42],[38],[124],[94],[60],[61,61],[60,60],[62,62]]
def opS (n:Int):Str:=opsL[n.toNat - 1]?.getD []
def exS:Nat→Barb.Expr→Str
 | 0,_=>[]
 | f+1,.mk k n of s args =>
  if k=1 then Lib.decDigits n.toNat else if k=2 then s
  else if k=3 then s++([91]++((args.map (exS f)).headD []++[93]))
  else if k=4 then (if of=[] then [] else of++[46])++(s++([40]++(Lib.join (args.map (exS f)) [44,32]++[41])))
  else [40]++((args.map (exS f)).headD []++([32]++((opS n++[32])++((args.map (exS f)).tail.headD []++[41]))))
theorem ex_cases {f:Nat} {x:Barb.Expr} (h:exprE (f+1) x=0) :
  (∃ n:Nat,n≤65535∧x=.mk 1 n [] [] [])∨(∃ s,identP s∧x=.mk 2 0 [] s [])∨(∃ s a,identP s∧exprE f a=0∧x=.mk 3 0 [] s [a]) ∨
  (∃ of s l,(of=[]∨identP of)∧identP s∧(∀ y∈l,exprE f y=0)∧x=.mk 4 0 of s l) ∨
  (∃ n a b,(1≤n∧n≤10)∧exprE f a=0∧exprE f b=0∧x=.mk 5 n [] [] [a,b]):=by
 obtain ⟨k,n,of,s,l⟩:=x
 simp only[exprE] at h
 split at h
 ·cases h
 rename_i hk
 split at h
 ·cases h
 split at h
 ·cases h
 rename_i hok
 split at h
 ·cases h
 rename_i hb
 have hok:=Classical.not_not.1 hok
 have hl:=firstE_all h
 unfold exprOk at hok
 unfold exprBad at hb
 rcases hok with ⟨rfl,rfl,rfl,h0⟩ | ⟨rfl,rfl,hi,h0,rfl⟩ | ⟨rfl,rfl,hi,h0,rfl⟩ | ⟨rfl,ho,hi,rfl⟩ | ⟨rfl,rfl,rfl,h0⟩
 ·obtain rfl:=List.eq_nil_of_length_eq_zero h0
  have:0≤n∧n≤65535:=Classical.byContradiction fun hc=>hb (.inl ⟨rfl,hc⟩)
  exact .inl ⟨n.toNat,by omega,by rw[Int.toNat_of_nonneg this.1]⟩
 ·obtain rfl:=List.eq_nil_of_length_eq_zero h0
  exact .inr (.inl ⟨s,hi,rfl⟩)
 ·match l,h0 with
  | [a],_=>exact .inr (.inr (.inl ⟨s,a,hi,hl a (by simp),rfl⟩))
 ·exact .inr (.inr (.inr (.inl ⟨of,s,l,ho,hi,hl,rfl⟩)))
 ·match l,h0 with
  | [a,b],_ =>
   have:1≤n∧n≤10:=Classical.byContradiction fun hc=>hb (.inr ⟨rfl,hc⟩)
   exact .inr (.inr (.inr (.inr ⟨n,a,b,this,hl a (by simp),hl b (by simp),rfl⟩)))
def blS0 (n:Nat):Str:=List.replicate n 32
def stS (bl:Nat→List Barb.Stmt→Str) (n:Nat):Barb.Stmt→Str
 | .mk k s xs b e=>blS0 n ++
  (if k=1 then s++([32,61,32]++((xs.map (exS 12)).headD []++[59,10]))
  else if k=2 then s++([91]++((xs.map (exS 12)).headD []++([93,32,61,32]++((xs.map (exS 12)).tail.headD []++[59,10]))))
  else if k=5 then [114,101,116,117,114,110,32]++((xs.map (exS 12)).headD []++[59,10])
  else if k=6 then [115,97,121,32]++((xs.map (exS 12)).headD []++[59,10])
  else if k=4 then [119,104,105,108,101,32]++((xs.map (exS 12)).headD []++([32]++(bl n b++[10])))
  else [105,102,32]++((xs.map (exS 12)).headD []++([32]++(bl n b++([32,101,108,115,101,32]++(bl n e++[10]))))))
def blS:Nat→Nat→List Barb.Stmt→Str
 | 0,_,_=>[]
 | f+1,n,l=>[123,10]++(l.flatMap (stS (blS f) (n+1))++(blS0 n++[125]))
theorem st_cases {f:Nat} {x:Barb.Stmt} (h:stmtE1 (stmtsE f) x=0) :
  (∃ s a,identP s∧exprE 12 a=0∧stmtsE f []=0∧x=.mk 1 s [a] [] [])∨(∃ s a b,identP s∧exprE 12 a=0∧exprE 12 b=0∧stmtsE f []=0∧x=.mk 2 s [a,b] [] []) ∨
  (∃ a b e,exprE 12 a=0∧stmtsE f b=0∧stmtsE f e=0∧x=.mk 3 [] [a] b e)∨(∃ a b,exprE 12 a=0∧stmtsE f b=0∧stmtsE f []=0∧x=.mk 4 [] [a] b []) ∨
  (∃ a,exprE 12 a=0∧stmtsE f []=0∧x=.mk 5 [] [a] [] [])∨(∃ a,exprE 12 a=0∧stmtsE f []=0∧x=.mk 6 [] [a] [] []):=by
 obtain ⟨k,s,xs,b,e⟩:=x
 simp only[stmtE1] at h
 split at h
 ·cases h
 rename_i hk
 split at h
 ·cases h
 rename_i hok
 split at h
 ·rename_i h1;exact absurd h h1
 rename_i hx
 split at h
 ·rename_i h1;exact absurd h h1
 rename_i hb
 have hx:=firstE_all (Classical.not_not.1 hx)
 have hb:=Classical.not_not.1 hb
 obtain ⟨⟨o1,o2,o3,o4⟩,o5,o6⟩:=Classical.not_not.1 hok
 have:k=1∨k=2∨k=3∨k=4∨k=5∨k=6:=by omega
 have one:k≠2→∃ a,xs=[a]:=fun hk=>by
  have:=o4 hk
  match xs,this with
  | [a],_=>exact ⟨a,rfl⟩
 have nb:k≠3→k≠4→b=[]:=fun h3 h4=>List.eq_nil_of_length_eq_zero ((o5.resolve_right (fun h=>h.elim h3 h4)))
 have ne:k≠3→e=[]:=fun h3=>List.eq_nil_of_length_eq_zero (o6.resolve_right h3)
 rcases this with rfl | rfl | rfl | rfl | rfl | rfl
 ·obtain ⟨a,rfl⟩:=one (by decide)
  obtain rfl:=nb (by decide) (by decide)
  obtain rfl:=ne (by decide)
  exact .inl ⟨s,a,o1 (by decide),hx a (by simp),hb,rfl⟩
 ·obtain rfl:=nb (by decide) (by decide)
  obtain rfl:=ne (by decide)
  match xs,o3 rfl with
  | [a,c],_=>exact .inr (.inl ⟨s,a,c,o1 (by decide),hx a (by simp),hx c (by simp),hb,rfl⟩)
 ·obtain ⟨a,rfl⟩:=one (by decide)
  obtain rfl:=o2 (by decide)
  exact .inr (.inr (.inl ⟨a,b,e,hx a (by simp),hb,h,rfl⟩))
 ·obtain ⟨a,rfl⟩:=one (by decide)
  obtain rfl:=o2 (by decide)
  obtain rfl:=ne (by decide)
  exact .inr (.inr (.inr (.inl ⟨a,b,hx a (by simp),hb,h,rfl⟩)))
 ·obtain ⟨a,rfl⟩:=one (by decide)
  obtain rfl:=o2 (by decide)
  obtain rfl:=nb (by decide) (by decide)
  obtain rfl:=ne (by decide)
  exact .inr (.inr (.inr (.inr (.inl ⟨a,hx a (by simp),hb,rfl⟩))))
 ·obtain ⟨a,rfl⟩:=one (by decide)
  obtain rfl:=o2 (by decide)
  obtain rfl:=nb (by decide) (by decide)
  obtain rfl:=ne (by decide)
  exact .inr (.inr (.inr (.inr (.inr ⟨a,hx a (by simp),hb,rfl⟩))))
def vaS (s:Str):Str:=[118,97,114,32]++(s++[10])
def arS (a:Arr):Str:=[97,114,114,97,121,32]++(a.name++([32]++(Lib.decDigits a.size.toNat++[10])))
def fuS (f:Fun):Str:=(if f.isOpen=true then [111,112,101,110,32] else [102,117,110,99,32])++(f.name++([40]++((Lib.join f.params [44,32]++[41])++([32]++(blS 12 0 f.body++[10])))))
def unS (u:Barb.Unit):Str:=[117,110,105,116,32]++(u.name++([10]++(u.vars.flatMap vaS++(u.arrays.flatMap arS++u.funcs.flatMap fuS))))
theorem nameE_inv {s:Str} (h:nameE s=0):identP s:=Classical.byContradiction fun hc=>by rw[nameE_no hc] at h;cases h
theorem arrE_inv {a:Arr} (h:arrE a=0):identP a.name∧1≤a.size∧a.size≤10:=by
 unfold arrE at h
 split at h
 ·cases h
 rename_i h1
 split at h
 ·cases h
 rename_i h2
 exact ⟨Classical.not_not.1 h1,Classical.not_not.1 h2⟩
theorem funE_inv {f:Fun} (h:funE f=0):identP f.name∧(∀ s∈f.params,identP s)∧stmtsE 12 f.body=0:=by
 unfold funE at h
 split at h
 ·cases h
 rename_i h1
 split at h
 ·cases h
 split at h
 ·rename_i h2;exact absurd h h2
 rename_i h2
 exact ⟨Classical.not_not.1 h1,fun s hs=>nameE_inv (firstE_all (Classical.not_not.1 h2) s hs),h⟩
theorem unitE_inv {u:Barb.Unit} (h:unitE u=0):identP u.name∧(∀ s∈u.vars,identP s)∧(∀ a∈u.arrays,arrE a=0)∧∀ f∈u.funcs,funE f=0:=by
 unfold unitE at h
 split at h
 ·cases h
 rename_i h1
 split at h
 ·cases h
 split at h
 ·rename_i h2;exact absurd h h2
 rename_i h2
 split at h
 ·rename_i h3;exact absurd h h3
 rename_i h3
 split at h
 ·rename_i h4;exact absurd h h4
 rename_i h4
 exact ⟨Classical.not_not.1 h1,fun s hs=>nameE_inv (firstE_all (Classical.not_not.1 h2) s hs),firstE_all (Classical.not_not.1 h3),firstE_all (Classical.not_not.1 h4)⟩
theorem opS_mem {n:Int} (h:1≤n∧n≤10):opS n∈opsL:=by
 have:n=1∨n=2∨n=3∨n=4∨n=5∨n=6∨n=7∨n=8∨n=9∨n=10:=by omega
 rcases this with rfl | rfl | rfl | rfl | rfl | rfl | rfl | rfl | rfl | rfl<;>decide
end Go.Proofs.YtabjelabdojpkaaDoor

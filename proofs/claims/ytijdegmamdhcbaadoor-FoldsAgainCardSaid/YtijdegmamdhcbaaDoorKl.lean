/-
  Calls of programs of raw things; rows of numbers and cells that are the same: the contracts.
-/
import Derived.Test.YtijdegmamdhcbaaDoorCg
import Derived.Test.YtijdegmamdhcbaaDoorEc2
import Derived.Test.YtijdegmamdhcbaaDoorPf
namespace Barb
open Go Go.Dm Go.Eng Go.Proofs.YtijdegmamdhcbaaDoor
def RR.code:RR Int→Int
 | .ok _ _=>1
 | .stop e _=>e
def RR.val:RR Int→Int
 | .ok n _=>n
 | .stop _ _=>0
structure RB (p:List Unit) (r:RR Int):Prop where
 si:SI p r.st
 code:1≤r.code∧r.code≤6
 val:wd r.val
theorem RI.rb {p:List Unit} {s:ES} {r:RR Int} (h:RI p s wd r):RB p r:=by
 cases r with
 | ok n s'=>exact ⟨h.1,by show (1:Int)≤1∧(1:Int)≤6;omega,h.2.2⟩
 | stop e s'=>exact ⟨h.1,by have:=h.2.2;show 1≤e∧e≤6;omega,by show wd 0;exact ⟨by decide,by decide⟩⟩
theorem Up.not3 {k:Nat} {r r2:RR Int} (h:Up k r r2) (h3:r.code≠3):r2.code=r.code∧r2.val=r.val∧r2.st.told=r.st.told∧r2.st.cells=r.st.cells:=by
 cases r with
 | ok n s =>
  have h:r2=.ok n (s.up k):=h
  subst h
  exact ⟨rfl,rfl,rfl,rfl⟩
 | stop e s =>
  rcases h with ⟨h1,h2⟩ | ⟨h1,h2⟩
  ·subst h2;exact ⟨rfl,rfl,rfl,rfl⟩
  ·exact absurd h1 h3
theorem Up.is3 {k:Nat} {r r2:RR Int} (h:Up k r r2) (h3:r.code=3):r.val=0∧r.st.told <+: r2.st.told:=by
 cases r with
 | ok n s=>exact absurd (show (1:Int)=3 from h3) (by decide)
 | stop e s =>
  rcases h with ⟨h1,_⟩ | ⟨_,h2⟩
  ·exact absurd h3 h1
  ·exact ⟨rfl,h2⟩
theorem prog_one {many:Nat} {p:List Unit} (h:Prog many p):0 < p.length∧unitIdx p [111,110,101]=0∧(0 < (uAt p 0).funcs.length∧funIdx (uAt p 0) [102]=0)∧((uAt p 0).funcs.getD 0 noF).params.length=2:=by
 have hm:=h.m
 have hn:=h.names
 obtain ⟨m,rfl⟩:∃ m,many=m+1:=⟨many - 1,by omega⟩
 cases p with
 | nil=>simp[unitsP] at hn
 | cons u l =>
  have hu:u.name=[111,110,101]:=by
   rw[List.map_cons,List.take_succ_cons] at hn
   exact (List.cons.inj hn).1
  have hs:=h.shape u List.mem_cons_self
  have e:uAt (u :: l) 0=u:=rfl
  rw[e]
  obtain ⟨i,l1,l2,l3,_,rfl⟩:=hs.ex
  refine ⟨by simp,?_,⟨by simp,?_⟩,rfl⟩
  ·unfold unitIdx idx
   simp only[idxFrom]
   exact if_pos hu
  ·unfold funIdx idx
   simp only[idxFrom]
   exact if_pos trivial
theorem pick_word {n:Int} {k:Nat} (hk:0 < k) (h:k≤65536):wd (pickN n k):=by
 obtain ⟨j,h1,h2⟩:=pickN_nat n hk
 exact ⟨by omega,by omega⟩
end Barb
namespace Go.Proofs.YtijdegmamdhcbaaDoor
open Go Go.Dm Go.Eng Go.RowKit Barb
theorem callD_eq (r:RR Int):callD r=ansD r.code r.val r.st:=by cases r<;>rfl
theorem EqualN_any (l:List Int) (hl:l.length≤9223372036854775807):CT Tryd.prog gl 15 [.g (.sl 1 (l.map intG)),.g (.sl 1 (l.map intG))] (Is (.g (.bool true))):=by
 have ll:(l.map intG).length=l.length:=by simp
 refine enter hT hF hM Tryd.func15 rfl 26 rfl (by kernel_rfl) [.tmp 4] rfl [.g (.sl 1 (l.map intG)),.g (.sl 1 (l.map intG))] rfl _ ?_
 refine ⟨fun h=>absurd rfl h,fun _=>?_⟩
 refine loopR (ι:=Nat) (fun i=>[(13,.g (.int (i:Int)))]) (fun _=>[]) (fun i=>i≤l.length) (fun i=>l.length - i)
  ⟨0,[],⟨rfl,.inl rfl,.inr ⟨lk rfl,trivial⟩,rfl⟩,Nat.zero_le _⟩ ?_
 intro Rd hRd i hi
 refine ⟨fun h1=>?_,fun h1=>⟨rfl,retIs (.inl rfl)⟩⟩
 have h2:i < l.length:=by omega
 refine ⟨none,rfl,i,_,rfl,gm h2,i,_,rfl,gm h2,?_⟩
 refine ⟨fun h=>absurd rfl h,fun _=>⟨_,I64.wrap (by unfold I64;omega),?_⟩⟩
 exact hRd _ _ _ ⟨i+1,[],⟨rfl,.inl rfl,.inr ⟨lk rfl,trivial⟩,rfl⟩,h2,by omega⟩
theorem same11_any (l:List Int) (hl:l.length≤9223372036854775807):CT Tryd.prog gl 57 [.g (.sl 1 (l.map intG)),.g (.sl 1 (l.map intG))] (Is (.g (.bool true))):=by
 refine enter hT hF hM Tryd.func57 rfl 8 rfl (by kernel_rfl) [.tmp 4] rfl [.g (.sl 1 (l.map intG)),.g (.sl 1 (l.map intG))] rfl _ ?_
 exact callIs (.inl rfl) (EqualN_any l hl) ⟨rfl,retIs (.inl rfl)⟩
theorem EqualR_any (l:List (List Int)) (hl:l.length≤9223372036854775807) (hI:∀ a∈l,a.length≤9223372036854775807):CT Tryd.prog gl 56 [.g (.sl 1 (l.map intsG)),.g (.sl 1 (l.map intsG)),.fn 57 [] []] (Is (.g (.bool true))):=by
 have ll:(l.map intsG).length=l.length:=by simp
 refine enter hT hF hM Tryd.func56 rfl 32 rfl (by kernel_rfl) [.tmp 6] rfl [.g (.sl 1 (l.map intsG)),.g (.sl 1 (l.map intsG)),.fn 57 [] []] rfl _ ?_
 refine ⟨fun h=>absurd rfl h,fun _=>?_⟩
 refine loopR (ι:=Nat) (fun i=>[(17,.g (.int (i:Int)))]) (fun _=>[]) (fun i=>i≤l.length) (fun i=>l.length - i)
  ⟨0,[],⟨rfl,.inl rfl,.inr ⟨lk rfl,trivial⟩,rfl⟩,Nat.zero_le _⟩ ?_
 intro Rd hRd i hi
 refine ⟨fun h1=>?_,fun h1=>⟨rfl,retIs (.inl rfl)⟩⟩
 have h2:i < l.length:=by omega
 refine ⟨i,_,rfl,gm h2,i,_,rfl,gm h2,?_⟩
 refine callIs (.inl rfl) (same11_any l[i] (hI _ (List.getElem_mem h2))) ?_
 refine ⟨_,I64.wrap (by unfold I64;omega),?_⟩
 exact hRd _ _ _ ⟨i+1,[],⟨rfl,.inl rfl,.inr ⟨lk rfl,trivial⟩,rfl⟩,h2,by omega⟩
def Cells.d (c:Cells):List D:=[.g (.sl 1 (c.vars.map intG)),.g (.sl 1 (c.arrays.map intsG))]
theorem same1_any (c:Cells) (hc:c.I):CT Tryd.prog gl 55 [.agg (Cells.d c),.agg (Cells.d c)] (Is (.g (.bool true))):=by
 obtain ⟨⟨_,hv⟩,ha,hal⟩:=hc
 refine enter hT hF hM Tryd.func55 rfl 17 rfl (by kernel_rfl) [.tmp 4] rfl [.agg (Cells.d c),.agg (Cells.d c)] rfl _ ?_
 refine callIs (.inl rfl) (EqualN_any c.vars (by omega)) ?_
 refine callIs (.inl rfl) (EqualR_any c.arrays (by omega) (fun a h=>by have:=(ha a h).2;omega)) ?_
 exact ⟨rfl,retIs (.inl rfl)⟩
theorem EqualC_any (l:List Cells) (hl:l.length≤9223372036854775807) (hI:∀ c∈l,Cells.I c):CT Tryd.prog gl 54 [.g (.sl 2 (l.map Cells.g)),.g (.sl 2 (l.map Cells.g)),.fn 55 [] []] (Is (.g (.bool true))):=by
 have ll:(l.map Cells.g).length=l.length:=by simp
 refine enter hT hF hM Tryd.func54 rfl 32 rfl (by kernel_rfl) [.tmp 6] rfl [.g (.sl 2 (l.map Cells.g)),.g (.sl 2 (l.map Cells.g)),.fn 55 [] []] rfl _ ?_
 refine ⟨fun h=>absurd rfl h,fun _=>?_⟩
 refine loopR (ι:=Nat) (fun i=>[(17,.g (.int (i:Int)))]) (fun _=>[]) (fun i=>i≤l.length) (fun i=>l.length - i)
  ⟨0,[],⟨rfl,.inl rfl,.inr ⟨lk rfl,trivial⟩,rfl⟩,Nat.zero_le _⟩ ?_
 intro Rd hRd i hi
 refine ⟨fun h1=>?_,fun h1=>⟨rfl,retIs (.inl rfl)⟩⟩
 have h2:i < l.length:=by omega
 refine ⟨i,_,rfl,gm h2,i,_,rfl,gm h2,?_⟩
 refine callIs (.inl rfl) (same1_any l[i] (hI _ (List.getElem_mem h2))) ?_
 refine ⟨_,I64.wrap (by unfold I64;omega),?_⟩
 exact hRd _ _ _ ⟨i+1,[],⟨rfl,.inl rfl,.inr ⟨lk rfl,trivial⟩,rfl⟩,h2,by omega⟩
theorem sameCells_any (l:List Cells) (hl:l.length≤9223372036854775807) (hI:∀ c∈l,Cells.I c):CT Tryd.prog gl 32 [.g (.sl 2 (l.map Cells.g)),.g (.sl 2 (l.map Cells.g))] (Is (.g (.bool true))):=by
 refine enter hT hF hM Tryd.func32 rfl 8 rfl (by kernel_rfl) [.tmp 4] rfl [.g (.sl 2 (l.map Cells.g)),.g (.sl 2 (l.map Cells.g))] rfl _ ?_
 exact callIs (.inl rfl) (EqualC_any l hl hI) ⟨rfl,retIs (.inl rfl)⟩
end Go.Proofs.YtijdegmamdhcbaaDoor

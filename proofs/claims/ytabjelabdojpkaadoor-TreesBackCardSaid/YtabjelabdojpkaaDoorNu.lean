/-
  Texts that are numbers: the plain law; and what the document says of them: the contract.
-/
import Derived.Test.YtabjelabdojpkaaDoorDlib
import Derived.Test.YtabjelabdojpkaaDoorDseat
import Derived.Test.YtabjelabdojpkaaDoorDgl
import Derived.Lib.AtoiAllCases
import Derived.Lib.ItoaNum
namespace Barb
open Go Go.Dm Go.Eng
def digP (c:UInt8):Prop:=48≤c.toNat∧c.toNat≤57
def stepN (n:Nat) (c:UInt8):Nat:=10*n+(c.toNat - 48)
def valN (l:List UInt8):Nat:=l.foldl stepN 0
theorem valN_snoc (l:List UInt8) (c:UInt8):valN (l++[c])=10*valN l+(c.toNat - 48):=by
 unfold valN;rw[List.foldl_append];rfl
theorem fold_le:∀ (l:List UInt8) (a:Nat),a≤l.foldl stepN a
 | [],a=>Nat.le_refl a
 | c :: l,a=>Nat.le_trans (by unfold stepN;omega) (fold_le l (stepN a c))
theorem valN_take_le (l:List UInt8) (i:Nat):valN (l.take i)≤valN l:=by
 unfold valN
 conv=>rhs;rw[← List.take_append_drop i l,List.foldl_append]
 exact fold_le _ _
theorem ofNat_dig {n:Nat} (h:n < 10):(UInt8.ofNat (48+n)).toNat=48+n:=by
 rw[UInt8.toNat_ofNat'];omega
theorem decDigits_small {n:Nat} (h:n < 10):Lib.decDigits n=[UInt8.ofNat (48+n)]:=by rw[Lib.decDigits,dif_pos h]
theorem decDigits_big {n:Nat} (h:¬n < 10):Lib.decDigits n=Lib.decDigits (n / 10)++[UInt8.ofNat (48+n % 10)]:=by rw[Lib.decDigits,dif_neg h]
theorem decDigits_all (n:Nat):(∀ c∈Lib.decDigits n,digP c)∧valN (Lib.decDigits n)=n∧Lib.decDigits n≠[]:=by
 induction n using Nat.strongRecOn with
 | _ n ih =>
  by_cases h:n < 10
  ·rw[decDigits_small h]
   refine ⟨fun c hc=>?_,?_,by simp⟩
   ·rw[List.mem_singleton] at hc
    subst hc
    unfold digP
    rw[ofNat_dig h];omega
   ·show 10*0+((UInt8.ofNat (48+n)).toNat - 48)=n
    rw[ofNat_dig h];omega
  ·obtain ⟨h1,h2,h3⟩:=ih (n / 10) (by omega)
   rw[decDigits_big h]
   have hd:n % 10 < 10:=by omega
   refine ⟨fun c hc=>?_,?_,by simp⟩
   ·rcases List.mem_append.1 hc with hc | hc
    ·exact h1 c hc
    ·rw[List.mem_singleton] at hc
     subst hc
     unfold digP
     rw[ofNat_dig hd];omega
   ·rw[valN_snoc,h2,ofNat_dig hd];omega
theorem dig_of {c:UInt8} (h:digP c):UInt8.ofNat (48+(c.toNat - 48))=c:=by
 obtain ⟨h1,_⟩:=h
 rw[show 48+(c.toNat - 48)=c.toNat from by omega]
 exact UInt8.ofNat_toNat
theorem snoc_ind' {α:Type} {Q:List α→Prop} (h0:Q []) (h1:∀ l a,Q l→Q (l++[a])):∀ l,Q l:=fun l=>by
 have:∀ m:List α,Q m.reverse:=fun m=>by
  induction m with
  | nil=>exact h0
  | cons a m ih=>rw[List.reverse_cons];exact h1 _ _ ih
 have:=this l.reverse
 rwa [List.reverse_reverse] at this
theorem digits_back (l:List UInt8):(∀ c∈l,digP c)→l≠[]→(l.length=1∨l[0]?≠some 48)→Lib.decDigits (valN l)=l:=by
 refine snoc_ind' (Q:=fun l=>(∀ c∈l,digP c)→l≠[]→(l.length=1∨l[0]?≠some 48)→Lib.decDigits (valN l)=l∧(l[0]?≠some 48→1≤valN l)) (fun _ h=>absurd rfl h) (fun l c ih hd _ hz=>?_) l |> fun h a b c=>(h a b c).1
 have hc:digP c:=hd c (by simp)
 have hc':=hc
 unfold digP at hc'
 cases l with
 | nil =>
  have e:valN ([]++[c])=c.toNat - 48:=by rw[valN_snoc];show 10*0+_=_;omega
  rw[e]
  refine ⟨by rw[decDigits_small (by omega),dig_of hc];rfl,fun h=>?_⟩
  have h48:c.toNat≠48:=fun h0=>h (by
   have:c=48:=UInt8.toNat_inj.1 (by rw[h0];rfl)
   rw[this];rfl)
  omega
 | cons x l =>
  have h0:(x :: l)[0]?≠some 48:=by
   rcases hz with hz | hz
   ·simp at hz
   ·simpa using hz
  obtain ⟨h1,h2⟩:=ih (fun c' hc'=>hd c' (by simp at hc' ⊢;rcases hc' with h | h;exact .inl h;exact .inr (.inl h))) (by simp) (.inr h0)
  have h2:=h2 h0
  rw[valN_snoc]
  refine ⟨?_,fun _=>by omega⟩
  rw[decDigits_big (by omega),show (10*valN (x :: l)+(c.toNat - 48)) / 10=valN (x :: l) from by omega,show (10*valN (x :: l)+(c.toNat - 48)) % 10=c.toNat - 48 from by omega,dig_of hc,h1]
theorem decDigits_head (n:Nat) (h:1 < (Lib.decDigits n).length):(Lib.decDigits n)[0]?≠some 48:=by
 induction n using Nat.strongRecOn with
 | _ n ih =>
  by_cases h10:n < 10
  ·rw[decDigits_small h10] at h;simp at h
  ·rw[decDigits_big h10]
   obtain ⟨h1,h2,h3⟩:=decDigits_all (n / 10)
   have hl:0 < (Lib.decDigits (n / 10)).length:=List.length_pos_iff.2 h3
   rw[List.getElem?_append_left hl]
   by_cases hs:n / 10 < 10
   ·rw[decDigits_small hs]
    intro e
    have e':UInt8.ofNat (48+n / 10)=48:=by simpa using e
    have:=congrArg UInt8.toNat e'
    rw[ofNat_dig hs] at this
    have h48:(48:UInt8).toNat=48:=rfl
    omega
   ·refine ih (n / 10) (by omega) ?_
    rw[decDigits_big hs,List.length_append]
    have:=List.length_pos_iff.2 (decDigits_all (n / 10 / 10)).2.2
    simp only[List.length_cons,List.length_nil]
    omega
def isNum (s:List UInt8):Prop:=∃ n,n≤65535∧s=Lib.decDigits n
noncomputable def numR (s:List UInt8):Int:=@dite _ (isNum s) (Classical.propDecidable _) (fun _=>((valN s:Nat):Int)) (fun _=>0)
noncomputable def numB (s:List UInt8):Bool:=@decide (isNum s) (Classical.propDecidable _)
theorem numR_yes {n:Nat} (h:n≤65535):numR (Lib.decDigits n)=n∧numB (Lib.decDigits n)=true:=by
 have hi:isNum (Lib.decDigits n):=⟨n,h,rfl⟩
 unfold numR numB
 rw[dif_pos hi,(decDigits_all n).2.1]
 exact ⟨rfl,@decide_eq_true _ (Classical.propDecidable _) hi⟩
theorem numR_no {s:List UInt8} (h:¬isNum s):numR s=0∧numB s=false:=by
 unfold numR numB
 rw[dif_neg h]
 exact ⟨rfl,@decide_eq_false _ (Classical.propDecidable _) h⟩
theorem parse_digits:∀ (l:List UInt8) (a:Nat),(∀ c∈l,digP c)→l.foldl stepN a≤65535→Lib.parseUint10 a l=.ok (l.foldl stepN a)
 | [],a,_,_=>rfl
 | c :: l,a,hd,h=>by
  have hc:=hd c List.mem_cons_self
  have hs:=fold_le l (stepN a c)
  simp only[List.foldl_cons] at h ⊢
  have hle:stepN a c≤65535:=Nat.le_trans hs h
  unfold stepN at hle
  unfold digP at hc
  simp only[Lib.parseUint10]
  rw[if_pos hc,if_neg (by omega),if_neg (by omega)]
  have:=parse_digits l (stepN a c) (fun c hc=>hd c (List.mem_cons_of_mem _ hc)) h
  unfold stepN at this ⊢
  rw[Nat.mul_comm a 10]
  exact this
theorem atoi_digits {n:Nat} (h:n≤65535):Lib.atoiAll (Lib.decDigits n)=.ok (n:Int):=by
 obtain ⟨h1,h2,h3⟩:=decDigits_all n
 generalize Lib.decDigits n=l at *
 cases l with
 | nil=>exact absurd rfl h3
 | cons c r =>
  have hc:=h1 c List.mem_cons_self
  unfold digP at hc
  rw[Lib.atoiAll_plain c r (by omega) (by omega)]
  unfold Lib.parseMag
  rw[if_neg (by simp),parse_digits (c :: r) 0 h1 (by show valN (c :: r)≤_;omega)]
  show (if 9223372036854775808≤valN (c :: r) then Lib.NumEnd.range else .ok ((valN (c :: r):Nat):Int))=_
  rw[h2,if_neg (by omega)]
end Barb
namespace Go.Proofs.YtabjelabdojpkaaDoor
open Go Go.Dm Go.Eng Barb
variable {L:Lv}
theorem In0_any (x lo hi:Int):CT Tryd.prog (gl L) 36 [.g (.int x),.g (.int lo),.g (.int hi)] (Is (.pb (lo≤x∧x≤hi))):=by
 refine enter hT hF hM Tryd.func36 rfl 15 rfl (by kernel_rfl) [.tmp 6] rfl [.g (.int x),.g (.int lo),.g (.int hi)] rfl _ ?_
 exact ⟨fun h1=>⟨rfl,retP ⟨fun h=>⟨h1,h⟩,fun h=>h.2⟩⟩,fun h1=>⟨rfl,retF (fun h=>h1 h.1)⟩⟩
theorem u8wrap {n:Nat} (h:n < 256):IntKind.u8.wrap (n:Int)=n:=by simp[IntKind.wrap,IntKind.bits,IntKind.signed];omega
theorem ret2IB {h:Heap} {a b:Int} {x y:Bool} (e:a=b) (f:x=y):RetTo (Is (.tuple [.g (.int b),.g (.bool y)])) h (.tuple [.g (.int a),.g (.bool x)]):=by subst e;subst f;exact retIs (.inl rfl)
end Go.Proofs.YtabjelabdojpkaaDoor

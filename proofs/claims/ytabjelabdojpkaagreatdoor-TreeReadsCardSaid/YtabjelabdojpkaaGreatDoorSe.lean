/-
  Structs of numbers, texts and truth values that are compared. It holds of every program.
-/
import Derived.Test.YtabjelabdojpkaaGreatDoorDa4
namespace Go.Dm
open Go Go.Eng Go.RowKit
section
variable {P:Program}
def kindT (P:Program) (t:TypeId):Nat→Bool
 | 0=>match P.underlying t with | some (.int .i64)=>true | _=>false
 | 1=>match P.underlying t with | some .string=>true | _=>false
 | 2=>match P.underlying t with | some .bool=>true | _=>false
 | _=>false
def fsK (P:Program):Nat→List Field→List Nat→Bool
 | _,[],[]=>true
 | k, f :: fs, q :: ks => (f.name != "_") && (kindT P f.type q && (Nat.beq f.offset k && fsK P (k + 1) fs ks))
 | _,_,_=>false
theorem eqK_one (w:World) (d:Nat) {t:TypeId}:∀ {q:Nat} {x y:Value},kindT P t q=true→kindV q x→kindV q y→P.plainKey t=true∧∃ r:Bool,(Op.equalIn (d+1) t x y).run P w=.ok r w∧(r=true↔x=y)
 | 0,x,y,ht,hx,hy=>by
  have hu:P.underlying t=some (.int .i64):=by
   simp only[kindT] at ht
   split at ht
   ·assumption
   ·cases ht
  refine ⟨by unfold Program.plainKey;rw[hu],?_⟩
  have key:∀ z:Value,kindV 0 z→∃ a,z=.int .i64 a:=fun z hz=>by
   cases z with
   | int k a=>cases k<;>first | exact ⟨a,rfl⟩ | exact hz.elim
   | _=>exact hz.elim
  obtain ⟨a,rfl⟩:=key x hx
  obtain ⟨b,rfl⟩:=key y hy
  exact ⟨a == b,run_equalIn_int w d t .i64 .i64 a b hu,by simp⟩
 | 1,x,y,ht,hx,hy=>by
  have hu:P.underlying t=some .string:=by
   simp only[kindT] at ht
   split at ht
   ·assumption
   ·cases ht
  refine ⟨by unfold Program.plainKey;rw[hu],?_⟩
  cases x with
  | string a =>
   cases y with
   | string b =>
    refine ⟨a.toList == b.toList,run_equalIn_string w d t a b hu,?_⟩
    rw[show (a.toList == b.toList)=(a == b) from (beq_toListBytes a b).symm]
    obtain ⟨⟨x⟩⟩:=a
    obtain ⟨⟨y⟩⟩:=b
    show ((⟨x⟩:Array UInt8) == ⟨y⟩)=true↔_
    simp
   | _=>exact hy.elim
  | _=>exact hx.elim
 | 2,x,y,ht,hx,hy=>by
  have hu:P.underlying t=some .bool:=by
   simp only[kindT] at ht
   split at ht
   ·assumption
   ·cases ht
  refine ⟨by unfold Program.plainKey;rw[hu],?_⟩
  cases x with
  | bool a =>
   cases y with
   | bool b=>exact ⟨a == b,run_equalIn_bool w d t a b hu,by simp⟩
   | _=>exact hy.elim
  | _=>exact hx.elim
 | q+3,x,y,ht,_,_=>by simp[kindT] at ht
theorem run_eqKs (w:World) (d:Nat) (xs ys:List Value):∀ (fs:List Field) (ks:List Nat) (k:Nat),fsK P k fs ks=true→kindL ks (xs.drop k)→kindL ks (ys.drop k) →
  ∃ r:Bool,(Op.eqFields (d+1) ⟨xs⟩ ⟨ys⟩ fs).run P w=.ok r w∧(r=true↔xs.drop k=ys.drop k)
 | [],[],k,_,hx,hy=>by
  have nil:∀ l:List Value,kindL [] l→l=[]:=fun l h=>by
   cases l with
   | nil=>rfl
   | cons a l=>exact h.elim
  exact ⟨true,by simp[Op.eqFields],by rw[nil _ hx,nil _ hy];simp⟩
 | [],_ :: _,_,h,_,_=>by simp[fsK] at h
 | _ :: _,[],_,h,_,_=>by simp[fsK] at h
 | f :: fs,q :: ks,k,h,hx,hy=>by
  simp only[fsK,Bool.and_eq_true] at h
  obtain ⟨hn,ht,ho,hfs⟩:=h
  have hn : f.name ≠ "_" := by simpa using hn
  have ho:f.offset=k:=Nat.eq_of_beq_eq_true ho
  have lt:∀ l:List Value,kindL (q :: ks) (l.drop k)→k < l.length:=fun l h=>by
   rcases Nat.lt_or_ge k l.length with h1 | h1
   ·exact h1
   ·rw[List.drop_of_length_le h1] at h;exact h.elim
  have hkx:=lt xs hx
  have hky:=lt ys hy
  have ex:=List.drop_eq_getElem_cons hkx
  have ey:=List.drop_eq_getElem_cons hky
  rw[ex] at hx
  rw[ey] at hy
  obtain ⟨hp,r0,hr0,hi0⟩:=eqK_one w d ht hx.1 hy.1
  have p1:(part f.type ⟨xs⟩ f.offset).run P w=.ok xs[k] w:=run_part_plain w hp (by simp[ho,hkx])
  have p2:(part f.type ⟨ys⟩ f.offset).run P w=.ok ys[k] w:=run_part_plain w hp (by simp[ho,hky])
  obtain ⟨r,hr,hiff⟩:=run_eqKs w d xs ys fs ks (k+1) hfs hx.2 hy.2
  simp only[Op.eqFields,hn,ne_eq,not_false_eq_true,if_true,Sem.run_bind,p1,p2,Result.andThen_ok,hr0]
  by_cases he:xs[k]=ys[k]
  ·have:r0=true:=hi0.2 he
   subst this
   refine ⟨r,by simpa using hr,?_⟩
   rw[hiff,ex,ey]
   exact ⟨fun h=>by rw[he,h],fun h=>(List.cons.inj h).2⟩
  ·have:r0=false:=by
    cases r0 with
    | true=>exact absurd (hi0.1 rfl) he
    | false=>rfl
   subst this
   exact ⟨false,by simp,⟨(fun h=>by cases h),(fun h=>by rw[ex,ey] at h;exact absurd (List.cons.inj h).1 he)⟩⟩
theorem stEq_plain {t:TypeId} {ks:List Nat} (ht:P.underlying t=some (.struct (P.fieldsOf t))) (hs:P.stoodInHeld t=false) (hg:P.eqGuardType P.depth t=false)
  (hf:fsK P 0 (P.fieldsOf t).toList ks=true):StEq P t ks:=by
 intro xs ys op ox oy w hx hy hop
 obtain ⟨r,hr,hiff⟩:=run_eqKs (P:=P) w 9998 xs ys (P.fieldsOf t).toList ks 0 hf (by simpa using hx) (by simpa using hy)
 simp only[List.drop_zero] at hiff
 rcases hop with rfl | rfl
 ·refine ⟨r,?_,fun _=>hiff,(fun h=>by cases h)⟩
  simp only[Sem.run_bind,run_eqGuard_agg w .eql t ox oy _ _ hg,Result.andThen_ok,run_eql_struct,run_equalIn_agg w 9999 t _ _ ht hs,hr]
 ·refine ⟨!r,?_,(fun h=>by cases h),(fun _=>by rw[← hiff];simp)⟩
  simp only[Sem.run_bind,run_eqGuard_agg w .neq t ox oy _ _ hg,Result.andThen_ok,run_neq_struct,run_equalIn_agg w 9999 t _ _ ht hs,hr]
end
end Go.Dm

/-
  Structs of numbers that are compared. And code that is the same: the contract.
-/
import Derived.Test.YtijdegmamdhcbaaDoorWd
import Derived.Test.YtijdegmamdhcbaaDoorSi
namespace Go.Dm
open Go Go.Eng Go.RowKit
section
variable {P:Program}
def intVs (l:List Int):List Value:=l.map (Value.int .i64)
theorem kindL_ints:∀ {n:Nat} {xs:List Value},kindL (List.replicate n 0) xs→∃ l:List Int,xs=intVs l∧l.length=n
 | 0,[],_=>⟨[],rfl,rfl⟩
 | 0,_ :: _,h=>h.elim
 | n+1,[],h=>h.elim
 | n+1,v :: vs,h=>by
  simp only[List.replicate_succ,kindL] at h
  obtain ⟨h1,h2⟩:=h
  obtain ⟨l,rfl,hl⟩:=kindL_ints h2
  cases v with
  | int k x =>
   cases k<;>first | exact ⟨x :: l,rfl,by simp[hl]⟩ | exact h1.elim
  | _=>exact h1.elim
theorem run_eqInts (w : World) (d : Nat) (xs ys : List Int) : ∀ (fs : List Field) (k : Nat), (∀ (i : Nat) (f : Field), fs[i]? = some f → f.name ≠ "_" ∧ P.underlying f.type = some (.int .i64) ∧ f.offset = k + i) → xs.length = k + fs.length → ys.length = k + fs.length →
  ∃ r:Bool,(Op.eqFields (d+1) ⟨intVs xs⟩ ⟨intVs ys⟩ fs).run P w=.ok r w∧(r=true↔xs.drop k=ys.drop k)
 | [],k,_,hx,hy=>⟨true,by simp[Op.eqFields],by simp at hx hy;rw[List.drop_of_length_le (by omega),List.drop_of_length_le (by omega)];simp⟩
 | f :: fs,k,hall,hx,hy=>by
  obtain ⟨hn,ht,ho⟩:=hall 0 f rfl
  simp at hx hy ho
  have hkx:k < xs.length:=by omega
  have hky:k < ys.length:=by omega
  have hp:P.plainKey f.type=true:=by unfold Program.plainKey;rw[ht]
  have p1:(part f.type ⟨intVs xs⟩ f.offset).run P w=.ok (.int .i64 xs[k]) w:=run_part_plain w hp (by simp[intVs,ho,hkx])
  have p2:(part f.type ⟨intVs ys⟩ f.offset).run P w=.ok (.int .i64 ys[k]) w:=run_part_plain w hp (by simp[intVs,ho,hky])
  obtain ⟨r,hr,hiff⟩:=run_eqInts w d xs ys fs (k+1) (fun i g hg=>by
   obtain ⟨h1,h2,h3⟩:=hall (i+1) g (by simpa using hg)
   exact ⟨h1,h2,by omega⟩) (by omega) (by omega)
  have ex:=List.drop_eq_getElem_cons hkx
  have ey:=List.drop_eq_getElem_cons hky
  simp only[Op.eqFields,hn,ne_eq,not_false_eq_true,if_true,Sem.run_bind,p1,p2,Result.andThen_ok,run_equalIn_int w d f.type .i64 .i64 xs[k] ys[k] ht]
  by_cases he:xs[k]=ys[k]
  ·refine ⟨r,by simpa [he] using hr,?_⟩
   rw[hiff,ex,ey]
   exact ⟨fun h=>by rw[he,h],fun h=>(List.cons.inj h).2⟩
  ·exact ⟨false,by simp[he],⟨(fun h=>by cases h),(fun h=>by rw[ex,ey] at h;exact absurd (List.cons.inj h).1 he)⟩⟩
def intFs (P:Program):Nat→List Field→Bool
 | _,[]=>true
 | k, f :: fs => (f.name != "_") && ((match P.underlying f.type with | some (.int .i64) => true | _ => false) && (Nat.beq f.offset k && intFs P (k + 1) fs))
theorem intFs_at : ∀ {fs : List Field} {k : Nat}, intFs P k fs = true → ∀ (i : Nat) (f : Field), fs[i]? = some f → f.name ≠ "_" ∧ P.underlying f.type = some (.int .i64) ∧ f.offset = k + i
 | [],_,_,i,f,h=>by simp at h
 | g :: fs,k,h,0,f,hf=>by
  simp at hf
  subst hf
  simp only[intFs,Bool.and_eq_true] at h
  obtain ⟨h1,h2,h3,_⟩:=h
  refine ⟨by simpa using h1,?_,Nat.eq_of_beq_eq_true h3⟩
  split at h2
  ·assumption
  ·cases h2
 | g :: fs,k,h,i+1,f,hf=>by
  simp only[intFs,Bool.and_eq_true] at h
  obtain ⟨h1,h2,h3⟩:=intFs_at h.2.2.2 i f (by simpa using hf)
  exact ⟨h1,h2,by omega⟩
theorem stEq_ints {t:TypeId} {n:Nat} (ht:P.underlying t=some (.struct (P.fieldsOf t))) (hs:P.stoodInHeld t=false) (hg:P.eqGuardType P.depth t=false)
  (hn:(P.fieldsOf t).toList.length=n) (hf:intFs P 0 (P.fieldsOf t).toList=true):StEq P t (List.replicate n 0):=by
 intro xs ys op ox oy w hx hy hop
 obtain ⟨l,rfl,hl⟩:=kindL_ints hx
 obtain ⟨m,rfl,hm⟩:=kindL_ints hy
 obtain ⟨r,hr,hiff⟩:=run_eqInts (P:=P) w 9998 l m (P.fieldsOf t).toList 0 (intFs_at hf) (by omega) (by omega)
 have inj:intVs l=intVs m↔l=m:=⟨fun h=>(List.map_inj_right (fun a b h=>by injection h)).1 h,fun h=>by rw[h]⟩
 simp only[List.drop_zero] at hiff
 rcases hop with rfl | rfl
 ·refine ⟨r,?_,fun _=>hiff.trans inj.symm,(fun h=>by cases h)⟩
  simp only[Sem.run_bind,run_eqGuard_agg w .eql t ox oy _ _ hg,Result.andThen_ok,run_eql_struct,run_equalIn_agg w 9999 t _ _ ht hs,hr]
 ·refine ⟨!r,?_,(fun h=>by cases h),(fun _=>by rw[inj,← hiff];simp)⟩
  simp only[Sem.run_bind,run_eqGuard_agg w .neq t ox oy _ _ hg,Result.andThen_ok,run_neq_struct,run_equalIn_agg w 9999 t _ _ ht hs,hr]
end
end Go.Dm
namespace Go.Proofs.YtijdegmamdhcbaaDoor
open Go Go.Dm Go.Eng Barb
theorem stEq_Instr:StEq Tryd.prog 55 [0,0,0,0] :=
 stEq_ints (n:=4) (by kernel_rfl) (by kernel_rfl) (by kernel_rfl) (by kernel_rfl) (by kernel_rfl)
end Go.Proofs.YtijdegmamdhcbaaDoor

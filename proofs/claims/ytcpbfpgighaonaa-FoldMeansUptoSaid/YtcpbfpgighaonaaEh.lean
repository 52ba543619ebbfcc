/-
  eval: a running program in memory.
-/
import Derived.Test.YtcpbfpgighaonaaPe
import Derived.Test.YtcpbfpgighaonaaDjk
import Derived.Test.YtcpbfpgighaonaaGh
import Derived.Test.YtcpbfpgighaonaaNq
namespace Barb
open Go Go.Dm Go.Eng
theorem iteL {c p q:Prop} [Decidable c] (h:c) (hp:p):if c then p else q:=by rw[if_pos h];exact hp
theorem iteR {c p q:Prop} [Decidable c] (h:¬c) (hp:q):if c then p else q:=by rw[if_neg h];exact hp
structure CN where
 v:Value
 ar:List Value
def rowZ (t:Nat) (l:List Int):Ob0:=.row (l.map intG) t 1
def cellZ (t:Nat) (n:CN) (c:Cells):List (Value × Ob0):=(n.v,rowZ t c.vars) :: List.zipWith (fun v l=>(v,rowZ t l)) n.ar c.arrays
def manyZ (t:Nat):List CN→List Cells→List (Value × Ob0)
 | n :: N,c :: C=>cellZ t n c++manyZ t N C
 | _,_=>[]
def CN.g (n:CN):List GV:=[.raw n.v,.sl 1 (n.ar.map fun a=>[.raw a])]
theorem zip_split {α β γ:Type} (f:α→β→γ):∀ (ys:List α) (bs:List β) (k:Nat) (hk:k < ys.length),k < bs.length→∀ b,List.zipWith f ys (bs.set k b)=List.zipWith f (ys.take k) (bs.take k)++f ys[k] b :: List.zipWith f (ys.drop (k+1)) (bs.drop (k+1))
 | [],_,_,hk,_,_=>by simp at hk
 | _ :: _,[],_,_,hk,_=>by simp at hk
 | a :: ys,b' :: bs,0,_,_,b=>by simp
 | a :: ys,b' :: bs,k+1,hk,hk',b=>by
  simp only[List.set_cons_succ,List.zipWith_cons_cons,List.take_succ_cons,List.cons_append,List.drop_succ_cons,List.getElem_cons_succ]
  rw[zip_split f ys bs k (by simpa using hk) (by simpa using hk') b]
theorem many_split (t:Nat):∀ (N:List CN) (C:List Cells) (u:Nat) (hu:u < N.length),u < C.length→∀ c,manyZ t N (C.set u c)=manyZ t (N.take u) (C.take u)++(cellZ t N[u] c++manyZ t (N.drop (u+1)) (C.drop (u+1)))
 | [],_,_,hu,_,_=>by simp at hu
 | _ :: _,[],_,_,hu,_=>by simp at hu
 | n :: N,c' :: C,0,_,_,c=>by simp[manyZ]
 | n :: N,c' :: C,u+1,hu,hu',c=>by
  simp only[List.set_cons_succ,manyZ,List.take_succ_cons,List.drop_succ_cons,List.getElem_cons_succ,List.append_assoc]
  rw[many_split t N C u (by simpa using hu) (by simpa using hu') c]
structure NI (N:List CN) (C:List Cells):Prop where
 len:N.length=C.length
 ar:∀ i (h:i < N.length) (h':i < C.length),N[i].ar.length=C[i].arrays.length
theorem set_self {α:Type} {l:List α} {u:Nat} (h:u < l.length):l.set u l[u]=l:=by simp
theorem lendV {t:Nat} {N:List CN} {s:ES} (hN:NI N s.cells) {u:Nat} (hu:u < s.cells.length):∃ l1 l2,manyZ t N s.cells=l1++((N[u]'(by rw[hN.len];exact hu)).v,rowZ t (cAt s u).vars) :: l2 ∧
  (((N[u]'(by rw[hN.len];exact hu)).v,rowZ t (cAt s u).vars) :: (l1++l2)).Perm (manyZ t N s.cells)∧∀ i n,(((N[u]'(by rw[hN.len];exact hu)).v,rowZ t ((cAt s u).vars.set i n)) :: (l1++l2)).Perm (manyZ t N (s.setV u i n).cells):=by
 have huN:u < N.length:=by rw[hN.len];exact hu
 have key:=many_split t N s.cells u huN hu
 have e0:manyZ t N s.cells=manyZ t (N.take u) (s.cells.take u)++(cellZ t N[u] (cAt s u)++manyZ t (N.drop (u+1)) (s.cells.drop (u+1))):=by
  have:=key s.cells[u]
  rw[set_self hu] at this
  rw[this,cAt_eq hu]
 have e1:manyZ t N s.cells=manyZ t (N.take u) (s.cells.take u)++(N[u].v,rowZ t (cAt s u).vars) :: (List.zipWith (fun v l=>(v,rowZ t l)) N[u].ar (cAt s u).arrays++manyZ t (N.drop (u+1)) (s.cells.drop (u+1))):=by
  rw[e0];rfl
 refine ⟨_,_,e1,?_,fun i n=>?_⟩
 ·rw[e1];exact List.perm_middle.symm
 ·show List.Perm _ (manyZ t N (s.cells.set u ((cAt s u).setV i n)))
  rw[key]
  exact (List.perm_middle (l₁:=manyZ t (N.take u) (s.cells.take u)) (a:=(N[u].v,rowZ t ((cAt s u).vars.set i n)))).symm
theorem lendA {t:Nat} {N:List CN} {s:ES} (hN:NI N s.cells) {u:Nat} (hu:u < s.cells.length) {k:Nat} (hk:k < (cAt s u).arrays.length) :
  ∃ (v:Value) (l1 l2:List (Value × Ob0)),(N[u]'(by rw[hN.len];exact hu)).ar[k]?=some v∧manyZ t N s.cells=l1++(v,rowZ t ((cAt s u).arrays.getD k [])) :: l2 ∧
  ((v,rowZ t ((cAt s u).arrays.getD k [])) :: (l1++l2)).Perm (manyZ t N s.cells)∧∀ i n,((v,rowZ t (((cAt s u).arrays.getD k []).set i n)) :: (l1++l2)).Perm (manyZ t N (s.setA u k i n).cells):=by
 have huN:u < N.length:=by rw[hN.len];exact hu
 have hka:k < N[u].ar.length:=by rw[hN.ar u huN hu,← cAt_eq hu];exact hk
 have key:=many_split t N s.cells u huN hu
 have zk:=zip_split (fun v l=>(v,rowZ t l)) N[u].ar (cAt s u).arrays k hka hk
 have e0:manyZ t N s.cells=manyZ t (N.take u) (s.cells.take u)++(cellZ t N[u] (cAt s u)++manyZ t (N.drop (u+1)) (s.cells.drop (u+1))):=by
  have:=key s.cells[u]
  rw[set_self hu] at this
  rw[this,cAt_eq hu]
 have eg:(cAt s u).arrays.getD k []=(cAt s u).arrays[k]:=by simp[hk]
 have ez:=zk (cAt s u).arrays[k]
 rw[set_self hk] at ez
 have e1:manyZ t N s.cells=(manyZ t (N.take u) (s.cells.take u)++(N[u].v,rowZ t (cAt s u).vars) :: List.zipWith (fun v l=>(v,rowZ t l)) (N[u].ar.take k) ((cAt s u).arrays.take k))++(N[u].ar[k],rowZ t ((cAt s u).arrays.getD k [])) :: (List.zipWith (fun v l=>(v,rowZ t l)) (N[u].ar.drop (k+1)) ((cAt s u).arrays.drop (k+1))++manyZ t (N.drop (u+1)) (s.cells.drop (u+1))):=by
  rw[e0,eg];unfold cellZ;rw[ez];simp
 refine ⟨_,_,_,List.getElem?_eq_getElem hka,e1,?_,fun i n=>?_⟩
 ·rw[e1];exact List.perm_middle.symm
 ·show List.Perm _ (manyZ t N (s.cells.set u ((cAt s u).setA k i n)))
  rw[key]
  have ez2:=zk (((cAt s u).arrays.getD k []).set i n)
  have:manyZ t (N.take u) (s.cells.take u)++(cellZ t N[u] ((cAt s u).setA k i n)++manyZ t (N.drop (u+1)) (s.cells.drop (u+1)))=(manyZ t (N.take u) (s.cells.take u)++(N[u].v,rowZ t (cAt s u).vars) :: List.zipWith (fun v l=>(v,rowZ t l)) (N[u].ar.take k) ((cAt s u).arrays.take k))++(N[u].ar[k],rowZ t (((cAt s u).arrays.getD k []).set i n)) :: (List.zipWith (fun v l=>(v,rowZ t l)) (N[u].ar.drop (k+1)) ((cAt s u).arrays.drop (k+1))++manyZ t (N.drop (u+1)) (s.cells.drop (u+1))):=by
   unfold cellZ Cells.setA;rw[ez2];simp
  rw[this]
  exact (List.perm_middle (l₁:=_) (a:=(N[u].ar[k],rowZ t (((cAt s u).arrays.getD k []).set i n)))).symm
theorem NI.setV {N:List CN} {s:ES} (h:NI N s.cells) (u i:Nat) (n:Int):NI N (s.setV u i n).cells:=by
 refine ⟨by simp[ES.setV,h.len],fun j hj hj'=>?_⟩
 have hj2:j < s.cells.length:=by simpa [ES.setV] using hj'
 show _=((s.cells.set u ((cAt s u).setV i n))[j]'(by simpa using hj2)).arrays.length
 rw[List.getElem_set]
 split
 ·rename_i e;subst e
  rw[h.ar u hj hj2,← cAt_eq hj2];rfl
 ·exact h.ar j hj hj2
theorem NI.setA {N:List CN} {s:ES} (h:NI N s.cells) (u k i:Nat) (n:Int):NI N (s.setA u k i n).cells:=by
 refine ⟨by simp[ES.setA,h.len],fun j hj hj'=>?_⟩
 have hj2:j < s.cells.length:=by simpa [ES.setA] using hj'
 show _=((s.cells.set u ((cAt s u).setA k i n))[j]'(by simpa using hj2)).arrays.length
 rw[List.getElem_set]
 split
 ·rename_i e;subst e
  rw[h.ar u hj hj2,← cAt_eq hj2];simp[Cells.setA]
 ·exact h.ar j hj hj2
end Barb
namespace Go.Proofs.Ytcpbfpgighaonaa
open Go Go.Dm Go.Eng Go.RowKit Barb
abbrev rC (p:List Barb.Unit) (N:List CN) (k:Nat) (fuel:Nat):List D:=[.g (.sl 4 (p.map Unit.g)),.g (.sl 2 (N.map CN.g)),.row k,.g (.int (fuel:Int))]
abbrev cC (r k:Nat) (c:EC) (el:EL):List D:=[.ptr r 0,.g (.int (c.u:Int)),.g (.str c.f.name),.g (.bool c.f.isOpen),.g (.sl 1 (c.f.params.map strG)),.g (.sl 5 (c.f.body.map Stmt.g)),.row k,.g (.int (c.deep:Int)),.g (.bool el.back),.g (.int el.val)]
abbrev tz (s:ES):List (List GV):=s.told.map intG
abbrev mz (N:List CN) (s:ES):List (Value × Ob0):=manyZ 3 N s.cells
abbrev BH (p:List Barb.Unit) (N:List CN) (fuel:Nat) (told:List Int):Heap:=[.blk (rC p N 1 fuel) 57,.row (told.map intG) 3 1]
abbrev XH (p:List Barb.Unit) (N:List CN) (R:Value) (s:ES) (c:EC) (el:EL):Heap :=
 [.blk (cC 1 3 c el) 111,.blk (rC p N 4 s.fuel) 57,.many (mz N s) [(R,1)],.row (el.ps.map intG) 3 1,.row (tz s) 3 1]
abbrev RH (p:List Barb.Unit) (N:List CN) (R:Value) (s:ES):Heap :=
 [.blk (rC p N 2 s.fuel) 57,.many (mz N s) [(R,0)],.row (tz s) 3 1]
abbrev stopD (e:Int):D:=.iface 87 (.agg [.g (.int e)])
theorem endBH {R':D→Heap→Prop} {env:Dm.Env} {p:List Barb.Unit} {N:List CN} {fuel:Nat} {told:List Int} {h hin:Heap} {d0:D} (d:D) (src:List Src) (hok:srcOk src=true) (hlen:nrOk src (BH p N fuel told)=true)
  (h0:conv h src 4 (env 0)=.ptr 0 0) (hd:conv h src 4 d0=d) (hT:turnH h src=BH p N fuel told) (q:R' d (BH p N fuel told)):ToH [0] hin 1 [] R' h env d0:=by
 refine ⟨src,d,BH p N fuel told,⟨hok,.inl hT,.inl ?_,hlen⟩,rfl,trivial,q⟩
 rw[List.map_cons,List.map_cons,List.map_cons,h0,hd];rfl
theorem burn_fn:fnOk Try.prog 86=true:=by kernel_rfl
theorem burn_any (p:List Barb.Unit) (N:List CN) (fuel:Nat) (told:List Int) (hf:fuel≤200000):CTH Try.prog [] 86 1 (BH p N fuel told) [.ptr 0 0]
  (fun out=>if fuel=0 then out=.panH (stopD 3) (BH p N 0 told) else out=.ret (.tuple []) (BH p N (fuel - 1) told)):=by
 refine enterH [] hT hF hM Try.func86 rfl 16 rfl (by kernel_rfl) [] rfl [.ptr 0 0] rfl (BH p N fuel told) [0] rfl rfl rfl 1 [] trivial _ ?_
 refine ⟨fun h=>?_,fun h=>?_⟩
 ·have h0:fuel=0:=by omega
  subst h0
  exact ⟨rfl,endBH (stopD 3) [.old 0,.old 1] rfl rfl rfl rfl rfl (iteL rfl rfl)⟩
 ·have h0:fuel≠0:=fun e=>h (by omega)
  refine ⟨by unfold I64;omega,?_⟩
  have e:((fuel:Int) - 1)=((fuel - 1:Nat):Int):=by omega
  rw[e]
  exact ⟨rfl,endBH (.tuple []) [.old 0,.old 1] rfl rfl rfl rfl rfl (iteR h0 rfl)⟩
end Go.Proofs.Ytcpbfpgighaonaa

/-
  Cells of programs that may be; programs and cells of raw things as they are handed on.
-/
import Derived.Test.YtijdegmamdhcbaaDoorGi
import Derived.Test.YtijdegmamdhcbaaDoorCe
import Derived.Test.YtijdegmamdhcbaaDoorLd
namespace Barb
open Go Go.Dm Go.Eng Go.Proofs.YtijdegmamdhcbaaDoor
theorem rowI_ok {f:Int→Int} {k:Nat} {n:Int} (h:∀ j,0≤iterI f j n∧iterI f j n < 70):wordsOk (rowI f k n) k:=by
 refine ⟨by rw[rowI_len],fun x hx=>?_⟩
 unfold rowI at hx
 obtain ⟨j,_,rfl⟩:=List.mem_map.1 hx
 have:=h j
 omega
theorem arrsC_ok (c:Int):∀ (l:List Arr) (n:Int),(0≤n∧n < 70)→(∀ a∈l,1≤a.size∧a.size≤10)→∀ k (h:k < (arrsC c l n).length) (h':k < l.length),wordsOk (arrsC c l n)[k] l[k].size
 | [],_,_,_,k,_,h'=>by simp at h'
 | a :: l,n,hn,hs,0,_,_=>by
  have ha:=hs a List.mem_cons_self
  have:=rowI_ok (k:=a.size.toNat) (fun j=>iterA_rng (c:=c) j hn)
  rw[show ((a.size.toNat:Nat):Int)=a.size by omega] at this
  exact this
 | a :: l,n,hn,hs,k+1,h,h'=>by
  have:=arrsC_ok c l (iterI (nextA c) a.size.toNat n) (iterA_rng _ hn) (fun b hb=>hs b (List.mem_cons_of_mem _ hb)) k (by simpa [arrsC] using h) (by simpa using h')
  simpa [arrsC] using this
theorem cellsU_ok (b c:Int) (u:Unit) {n:Int} (hn:0≤n∧n < 70) (hs:∀ a∈u.arrays,1≤a.size∧a.size≤10):cellOk u (cellsU b c u n) :=
 ⟨⟨rowI_ok (fun j=>iterV_rng j hn),arrsC_len _ _ _⟩,fun k h h'=>arrsC_ok c u.arrays _ (iterV_rng _ hn) hs k h h'⟩
theorem cellsL_ok (b c:Int):∀ (l:List Unit) (n:Int),(0≤n∧n < 70)→(∀ u∈l,∀ a∈u.arrays,1≤a.size∧a.size≤10)→∀ i (h:i < (cellsL b c l n).length) (h':i < l.length),cellOk l[i] (cellsL b c l n)[i]
 | [],_,_,_,i,_,h'=>by simp at h'
 | u :: l,n,hn,hs,0,_,_=>cellsU_ok b c u hn (hs u List.mem_cons_self)
 | u :: l,n,hn,hs,i+1,h,h'=>by
  have:=cellsL_ok b c l (endU b c u n) (endU_rng hn) (fun v hv=>hs v (List.mem_cons_of_mem _ hv)) i (by simpa [cellsL] using h) (by simpa using h')
  simpa [cellsL] using this
theorem cellsP_good {p:List Unit} (hg:progE p=0) (r:Raw):cellsE p (cellsP p r)=0:=by
 obtain ⟨_,hU,_,_⟩:=progE_inv hg
 obtain ⟨k,hk,hk7⟩:=pickN_nat r.a (many:=7) (by decide)
 exact cellsE_yes hg (cellsL_len _ _ _ _) (fun i h h'=>cellsL_ok _ _ p (pickN r.a 7) (by rw[show (7:Int)=((7:Nat):Int) from rfl,hk];omega) (fun u hu a ha=>(arrE_inv ((unitE_inv (hU u hu)).2.2.2.2.2.1 a ha)).2) i h h')
theorem cells_I {p:List Unit} {cs:List Cells} (hg:progE p=0) (hl:cs.length=p.length) (h:cellsOk p cs):∀ c∈cs,c.I:=by
 intro c hc
 obtain ⟨i,hi,rfl⟩:=List.getElem_of_mem hc
 have hU:=(progE_inv hg).2.1 _ (List.getElem_mem (show i < p.length by omega))
 obtain ⟨s1,s2,s3⟩:=cell_small hU (h i hi (by omega))
 obtain ⟨⟨h1,h2⟩,h3⟩:=h i hi (by omega)
 refine ⟨⟨fun x hx=>by have:=h1.2 x hx;unfold I64;omega,by omega⟩,fun a ha=>⟨fun x hx=>?_,by have:=s3 a ha;omega⟩,by omega⟩
 obtain ⟨k,hk,rfl⟩:=List.getElem_of_mem ha
 have:=(h3 k hk (by omega)).2 x hx
 unfold I64;omega
end Barb
namespace Go.Proofs.YtijdegmamdhcbaaDoor
open Go Go.Dm Go.Eng Go.RowKit Barb
theorem Program_isT (l:List Raw) (hl:l.length*32≤140737488351232) (hI:∀ r∈l,r.I):CT Tryd.prog gl 24 [.g (.sl 4 (l.map Raw.g))] (Is (.g (.sl 4 ((programP l).map Unit.g)))) :=
 Program_Q l hl hI _ (fun h i hi=>retIs (.inl (by simp only[conv,kp,hi])))
theorem Cells_isT (p:List Barb.Unit) (hp:PC p) (r:Raw) (hr:r.I):CT Tryd.prog gl 22 [.g (.sl 4 (p.map Unit.g)),.agg r.d] (Is (.g (.sl 2 ((cellsP p r).map Cells.g)))) :=
 Cells_Q p hp r hr _ (fun h i hi=>retIs (.inl (by simp only[conv,kp,hi])))
theorem progE_PC {p:List Barb.Unit} (h:progE p=0):PC p:=by
 obtain ⟨h5,hU,_,_⟩:=progE_inv h
 exact ⟨by omega,fun u hu=>by have:=(unitE_inv (hU u hu)).2.1;omega,fun u hu=>by have:=(unitE_inv (hU u hu)).2.2.1;omega,fun u hu a ha=>by have:=(arrE_inv ((unitE_inv (hU u hu)).2.2.2.2.2.1 a ha)).2;omega⟩
end Go.Proofs.YtijdegmamdhcbaaDoor

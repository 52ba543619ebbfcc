/-
  eval: stores that nobody writes any more.
-/
import Derived.Test.YtcpbfpgighaonaaEh
namespace Go.Dm
open Go Go.Eng Go.RowKit Barb
theorem ob_frozen {V V':Nat→Prop} {w:World} {v:Value} {xs:List (List GV)} {e sz:Nat} (ho:Ob0Ok V w v (.row xs e sz)) (hV:∀ k,V k→V' k) (hb:∀ k,bk v=some k→V' k):RepV V' w (.sl sz xs) v :=
 row_frozen (h:=[]) (β:=fun _=>v) (i:=0) ho hV hb
section
variable {V V':Nat→Prop} {w:World} {t:Nat}
def Melts (V V':Nat→Prop) (w:World) (l:List (Value × Ob0)):Prop:=∀ q∈l,Ob0Ok V w q.1 q.2∧∀ k,bk q.1=some k→V' k
theorem melt_arrs (hV:∀ k,V k→V' k) (a:Addr):∀ (ns:List Value) (ls:List (List Int)) (j:Nat),ns.length=ls.length→Melts V V' w (List.zipWith (fun v l=>(v,rowZ t l)) ns ls)→RepAll V' w 1 a j (ns.map fun a=>[.raw a])→RepAll V' w 1 a j (ls.map intsG)
 | [],[],_,_,_,h=>h
 | [],_ :: _,_,h,_,_=>by simp at h
 | _ :: _,[],_,h,_,_=>by simp at h
 | n :: ns,l :: ls,j,hl,hm,h=>by
  simp only[List.map_cons,RepAll] at h ⊢
  refine ⟨⟨rfl,?_⟩,melt_arrs hV a ns ls (j+1) (by simpa using hl) (fun q hq=>hm q (by simp only[List.zipWith_cons_cons];exact List.mem_cons_of_mem _ hq)) h.2⟩
  simp only[intsG,RepRow] at h ⊢
  obtain ⟨⟨_,⟨u,hu,hg⟩,_⟩,_⟩:=h
  simp only[RepV] at hg
  obtain ⟨h1,h2⟩:=hm (n,rowZ t l) (by simp only[List.zipWith_cons_cons];exact List.mem_cons_self)
  exact ⟨⟨u,hu,by rw[hg.1];exact ob_frozen h1 hV h2⟩,trivial⟩
theorem melt_cells (hV:∀ k,V k→V' k) (a:Addr):∀ (N:List CN) (C:List Cells) (j:Nat),NI N C→Melts V V' w (manyZ t N C)→RepAll V' w 2 a j (N.map CN.g)→RepAll V' w 2 a j (C.map Cells.g)
 | [],[],_,_,_,h=>h
 | [],_ :: _,_,h,_,_=>by have:=h.len;simp at this
 | _ :: _,[],_,h,_,_=>by have:=h.len;simp at this
 | n :: N,c :: C,j,hN,hm,h=>by
  have hN':NI N C:=⟨by have:=hN.len;simpa using this,fun i h1 h2=>by
   have:=hN.ar (i+1) (by simpa using h1) (by simpa using h2)
   simpa using this⟩
  have hna:n.ar.length=c.arrays.length:=by
   have:=hN.ar 0 (by simp) (by simp)
   simpa using this
  simp only[List.map_cons,RepAll] at h ⊢
  refine ⟨⟨rfl,?_⟩,melt_cells hV a N C (j+1) hN' (fun q hq=>hm q (by simp only[manyZ];exact List.mem_append.2 (.inr hq))) h.2⟩
  simp only[CN.g,Cells.g,RepRow] at h ⊢
  obtain ⟨⟨_,⟨u,hu,hg⟩,⟨u2,hu2,hg2⟩,_⟩,_⟩:=h
  simp only[RepV] at hg
  obtain ⟨h1,h2⟩:=hm (n.v,rowZ t c.vars) (by simp only[manyZ,cellZ];exact List.mem_append.2 (.inl List.mem_cons_self))
  refine ⟨⟨u,hu,by rw[hg.1];exact ob_frozen h1 hV h2⟩,⟨u2,hu2,?_⟩,trivial⟩
  simp only[RepV,List.length_map] at hg2 ⊢
  obtain ⟨A,cap,rfl,hc,h3,h4⟩:=hg2
  refine ⟨A,cap,by rw[hna],by omega,fun h0=>?_,h4⟩
  obtain ⟨a2,rfl,hVa,hall⟩:=h3 (by omega)
  exact ⟨a2,rfl,hVa,melt_arrs hV a2 n.ar c.arrays 0 hna (fun q hq=>hm q (by simp only[manyZ,cellZ];exact List.mem_append.2 (.inl (List.mem_cons_of_mem _ hq)))) hall⟩
theorem melt_rep (hV:∀ k,V k→V' k) {N:List CN} {C:List Cells} (hN:NI N C) (hm:Melts V V' w (manyZ t N C)) {v:Value} (h:RepV V' w (.sl 2 (N.map CN.g)) v):RepV V' w (.sl 2 (C.map Cells.g)) v:=by
 simp only[RepV,List.length_map] at h ⊢
 obtain ⟨A,cap,rfl,hc,h3,h4⟩:=h
 have hl:=hN.len
 refine ⟨A,cap,by rw[hl],by omega,fun h0=>?_,h4⟩
 obtain ⟨a2,rfl,hVa,hall⟩:=h3 (by omega)
 exact ⟨a2,rfl,hVa,melt_cells hV a2 N C 0 hN hm hall⟩
end
section
variable {G:Gl} {n:Nat}
theorem turnMelt {K:St→Prop} {env:Env} {h:Heap} {df:List Deferred} {N:List CN} {C:List Cells} {t tb m j off:Nat} {cs:List D} {ts:List (Value × Nat)} (hm:h[m]?=some (.many (manyZ t N C) ts)) (hj:h[j]?=some (.blk cs tb)) (hc:cs[off]?=some (.g (.sl 2 (N.map CN.g)))) (hN:NI N C)
  (k:TurnP G n K ⟨env,(h.set m .dead).set j (.blk (cs.set off (.g (.sl 2 (C.map Cells.g)))) tb),df⟩):TurnP G n K ⟨env,h,df⟩:=by
 obtain ⟨st1,hst,hk⟩:=k
 refine ⟨st1,fun X a w hG hr=>hst X a w hG ?_,hk⟩
 obtain ⟨h1,h2,β,V,h3,h4⟩:=hr
 have hmj:m≠j:=fun e=>by subst e;have:(⟨env,h,df⟩:St).h[m]?=some (.blk cs tb):=hj;rw[hm] at hj;cases hj
 have hkl:=kill_rel h3 [m]
 have hle:=kills_le [m] h β
 have hmv:=kill_moved h [m] β V w
 have ek:kills h [m]=h.set m .dead:=rfl
 rw[show (⟨env,h,df⟩:St).h=h from rfl] at hkl
 rw[ek] at hkl hle
 have hj':(h.set m .dead)[j]?=some (.blk cs tb):=by rw[List.getElem?_set_ne hmj];exact hj
 have hob:=h3.obj m _ hm
 have hr2:RelD X ((h.set m .dead).set j (.blk (cs.set off (.g (.sl 2 (C.map Cells.g)))) tb)) β (killV h [m] β V) w :=
  hkl.recell hj' (fun g vs _ _ p3=>by
   obtain ⟨v,c1,c2⟩:=cell_rep p3 hc
   refine cell_set p3 c1 ?_
   simp only[RepD] at c2 ⊢
   refine melt_rep (V:=V) (t:=t) (fun k hk=>.inl hk) hN (fun q hq=>⟨hob.1 q hq,fun k hk=>.inr ⟨m,_,List.mem_cons_self,hm,rfl,q,hq,hk⟩⟩) c2)
 have hle2:LeH h β ((h.set m .dead).set j (.blk (cs.set off (.g (.sl 2 (C.map Cells.g)))) tb)) β:=hle.trans (le_set hj' trivial)
 exact ⟨h1,h2,β,_,hr2,fun i=>RepD.mono hle2 hmv _ _ (h4 i)⟩
end
end Go.Dm

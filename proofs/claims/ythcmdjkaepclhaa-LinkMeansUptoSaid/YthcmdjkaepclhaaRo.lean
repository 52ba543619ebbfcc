import Derived.Test.YthcmdjkaepclhaaQm
namespace Go.Dm
open Go Go.Eng Go.RowKit
theorem ghNilC {G:Gl} {h:Heap} {d:D} {K:KD} (j off:Nat) {cs:List D} {t:TypeId} (hj:h[j]?=some (.blk cs t)) (hc:cs[off]?=some .nils) (k:GhostTo G d (h.set j (.blk (cs.set off (.g (.raw (.slice none 0 0)))) t)) K):GhostTo G d h K:=fun C w β V u hG hr hd=>by
 have h3:RelD C (h.set j (.blk (cs.set off (.g (.raw (.slice none 0 0)))) t)) β V w:=hr.recell hj (fun g vs p1 p2 p3=>by
  obtain ⟨v,c1,c2⟩:=cell_rep p3 hc
  refine cell_set p3 c1 ?_
  simp only[RepD] at c2
  subst c2
  simp only[RepD,RepV]
  exact ⟨trivial,rfl,rfl⟩)
 have le:LeH h β (h.set j (.blk (cs.set off (.g (.raw (.slice none 0 0)))) t)) β:=le_set hj trivial
 obtain ⟨d2,h2,β2,V2,k1,k2,k3,k4,k5⟩:=k C w β V u hG h3 (RepD.mono le (Moved.refl _ _) _ _ hd)
 exact ⟨d2,h2,β2,V2,k1,k2,k3,le.trans k4,k5⟩
end Go.Dm
namespace Barb
open Go Go.Dm Go.Eng Go.Proofs.Ythcmdjkaepclhaa
theorem noteS_told (o:MO) (k v:Int):(noteS o k v).told=o.told:=by unfold noteS;split<;>rfl
theorem noteS_data (o:MO) (k v:Int):(noteS o k v).data=o.data:=by unfold noteS;split<;>rfl
theorem p8_from {L:List (List GV)} {l:List Int} (h:L=l.map intG) (a b c d:D):[a,b,.g (.int (l.getD 0 0)),.g (.int (l.getD 1 0)),.g (.int (l.getD 2 0)),.g (.int (l.getD 3 0)),.g (.int (l.getD 4 0)),.g (.int (l.getD 5 0)),.g (.int (l.getD 6 0)),.g (.int (l.getD 7 0)),c,d] =
  setL [a,b,.g (.int 0),.g (.int 0),.g (.int 0),.g (.int 0),.g (.int 0),.g (.int 0),.g (.int 0),.g (.int 0),c,d] 2 (((L.take 8).flatten).map .g):=by
 rw[h];exact (p8_set l a b c d).symm
theorem cell_at (a b:D) (l:List Int) (c:List D) {j:Nat} (h:j < l.length):(a :: b :: (l.map (fun n=>D.g (.int n))++c))[0+2+j*1]?=some (.g (.int (l.getD j 0))):=by
 rw[show 0+2+j*1=j+1+1 from by omega,List.getElem?_cons_succ,List.getElem?_cons_succ,List.getElem?_append_left (by simpa using h)]
 simp[h]
theorem cell_put (a b:D) (l:List Int) (c:List D) {j:Nat} (h:j < l.length) (x:Int):setL (a :: b :: (l.map (fun n=>D.g (.int n))++c)) (0+2+j*1) [.g (.int x)]=a :: b :: ((l.set j x).map (fun n=>D.g (.int n))++c):=by
 rw[show 0+2+j*1=j+1+1 from by omega]
 simp only[setL,List.set_cons_succ]
 rw[List.set_append_left _ _ (by simpa using h),List.map_set]
end Barb
namespace Go.Proofs.Ythcmdjkaepclhaa
open Go Go.Dm Go.Eng Go.RowKit Barb
abbrev zr:List Rm->List (Value × Ob0):=zs 114 3
abbrev ROv (i:RS):List (Nat × D):=[(5,.g (.int (i.n:Int))),(6,.ptr 0 0),(12,.ptr 1 0),(16,.ptr 2 0),(18,.row 6)]
abbrev ROb (m:Image) (l:List (Value × Ob0)) (ts:List (Value × Nat)) (told data calls rooms:List (List GV)) (r:Heap):Heap :=
 .blk [.g (.sl 4 (m.map Part.g))] 40 :: .blk [.g (.int 0),.g (.int 0),.nils,.nils,.nils] 76 :: .blk [.g (.int 0),.g (.int 0),.row 3,.row 4,.row 5] 76 :: .row told 3 1 :: .row data 3 1 :: .row calls 118 7 :: .row rooms 111 1 :: .many l ts :: r
abbrev ROh (m:Image) (i:RS):Heap:=ROb m (zr i.gs) [] (i.o.told.map intG) (i.o.data.map intG) (i.o.calls.map Nt.g) (i.gs.map Rm.r) []
theorem endRO {m:Image} {F:Int × Int × MO} {n n':Nat} {z:Int} {env:Dm.Env} {h:Heap} {o:MO} {gs:List Rm} {told data calls rooms:List (List GV)} {l:List (Value × Ob0)} (src:List Src) (hok:srcOk src=true) (hlen:nrOk src (ROh m ⟨n',o,gs⟩)=true)
  (h5:conv h src 4 (env 5)=.g (.int z)) (h6:conv h src 4 (env 6)=.ptr 0 0) (h12:conv h src 4 (env 12)=.ptr 1 0) (h16:conv h src 4 (env 16)=.ptr 2 0) (h18:conv h src 4 (env 18)=.row 6)
  (hT:turnH h src=ROb m l [] told data calls rooms []) (hz:z=(n':Int)) (e1:told=o.told.map intG) (e2:data=o.data.map intG) (e3:calls=o.calls.map Nt.g) (e4:rooms=gs.map Rm.r) (p:l.Perm (zr gs)) (inv:RInv m F ⟨n',o,gs⟩) (hn:n' < n) :
  Again ROv (ROh m) (RInv m F) (fun i=>i.n) n env h:=by
 subst e1;subst e2;subst e3;subst e4;subst hz
 refine ⟨⟨n',o,gs⟩,src,⟨hok,.inr ?_,.inr ?_,hlen⟩,inv,hn⟩
 ·rw[hT]
  exact ⟨⟨rfl,.inl rfl⟩,⟨rfl,.inl rfl⟩,⟨rfl,.inl rfl⟩,⟨rfl,rfl,rfl⟩,⟨rfl,rfl,rfl⟩,⟨rfl,rfl,rfl⟩,⟨rfl,rfl,rfl⟩,⟨p,rfl⟩,trivial⟩
 ·simp only[ROv,List.map_cons,List.map_nil,h5,h6,h12,h16,h18]
  exact ⟨lk rfl,lk rfl,lk rfl,lk rfl,lk rfl,trivial⟩
theorem zperm1 (pre:List Rm) (x:Rm):(zr pre++[]++[(x.b,Ob0.blk x.g 114)]++[(x.v,Ob0.row (x.f.ws.map intG) 3 1)]).Perm (zr (pre++[x])):=by
 rw[show zr (pre++[x])=zr pre++x.z 114 3 from zs_snoc _ _ _ _,List.append_nil,List.append_assoc]
 exact List.Perm.refl _
theorem zperm2 (pre:List Rm) (x y:Rm) (h1:y.v=.slice none 0 0) (h2:y.f.ws=[]):(zr pre++[]++[(y.b,Ob0.blk y.g 114)]++[(Value.slice none 0 0,Ob0.row [] 3 1)]++[(x.b,Ob0.blk x.g 114)]++[(x.v,Ob0.row (x.f.ws.map intG) 3 1)]).Perm (zr (pre++[x]++[y])):=by
 rw[show zr (pre++[x]++[y])=zr pre++x.z 114 3++y.z 114 3 from zs_snoc2 _ _ _ _ _,List.append_nil]
 simp only[Rm.z,h1,h2,List.append_assoc,List.map_nil]
 refine List.Perm.append_left _ ?_
 exact List.perm_append_comm (l₁:=[(y.b,Ob0.blk y.g 114),(Value.slice none 0 0,Ob0.row [] 3 1)]) (l₂:=[(x.b,Ob0.blk x.g 114),(x.v,Ob0.row (x.f.ws.map intG) 3 1)])
theorem retRO {h:Heap} {c v e:Int} {o:MO} {a b d:Nat} {xs ys zs:List (List GV)} {R:Outc} (ha:h[a]?=some (.row xs 3 1)) (hb:h[b]?=some (.row ys 3 1)) (hd:h[d]?=some (.row zs 118 7)) (e1:xs=o.told.map intG) (e2:ys=o.data.map intG) (e3:zs=o.calls.map Nt.g) (hR:R=outOf (c,v,o)) (he:e=0) :
  RetTo (Is (.tuple [.agg R.d,.g (.int e)])) h (.tuple [.agg [.g (.int c),.g (.int v),.row a,.row b,.row d],.g (.int 0)]):=by
 subst e1;subst e2;subst e3;subst hR;subst he
 refine retIs (.inl ?_)
 simp only[conv,List.map_cons,List.map_nil,kp,ha,hb,hd]
 rfl
set_option maxRecDepth 20000 in
set_option maxHeartbeats 60000000 in
theorem RunOf_any (m:Image) (hm:Image.I m) (d:List Int) (hd:d.length*8<=140737488351232) (part entry:Int) (args:List Int) (fuel:Int) :
  CT Try.prog [] 26 [.agg (imgD m),.g (.sl 1 (d.map intG)),.g (.int part),.g (.int entry),.g (.sl 1 (args.map intG)),.g (.int fuel)] (Is (.tuple [.agg (runV m d part entry args fuel).d,.g (.int (runE m d part entry args fuel))])):=by
 have lm:(m.map Part.g).length=m.length:=List.length_map _
 have la:(args.map intG).length=args.length:=List.length_map _
 have e:runE m d part entry args fuel=runE m d part entry args fuel:=rfl
 conv at e=>rhs;unfold runE
 refine enter hT hF hM Try.func26 rfl 548 rfl (by kernel_rfl) [.cell 12 76,.tmp 13] rfl [.agg (imgD m),.g (.sl 1 (d.map intG)),.g (.int part),.g (.int entry),.g (.sl 1 (args.map intG)),.g (.int fuel)] rfl _ ?_
 refine callIs (.inl rfl) (DataFault_any m hm d hd) ?_
 by_cases h:dataE m d=0
 rotate_left
 ·rw[if_pos h] at e
  refine ⟨fun x=>absurd x h,fun _=>?_⟩
  refine ⟨fun x=>absurd x h,fun _=>?_⟩
  refine ⟨fun x=>absurd x h,fun _=>?_⟩
  refine loopR (ι:=PUnit) (fun _=>[(14,.g (.int (dataE m d))),(15,.g (.int 0)),(6,.ptr 0 0),(12,.ptr 1 0)]) (fun _=>[.blk [.g (.sl 4 (m.map Part.g))] 40,.blk [.g (.int 0),.g (.int 0),.nils,.nils,.nils] 76]) (fun _=>True) (fun _=>0) ⟨⟨⟩,[.old 0,.old 1],⟨rfl,.inl rfl,.inr ⟨lk rfl,lk rfl,lk rfl,lk rfl,trivial⟩,rfl⟩,trivial⟩ ?_
  intro Rd hRd i hi
  refine ⟨fun _=>⟨fun x=>absurd x h,fun _=>⟨fun _=>⟨rfl,retZ (runV_bad e h) (e).symm⟩,fun x=>absurd x h⟩⟩,fun _=>⟨fun _=>⟨rfl,retZ (runV_bad e h) (e).symm⟩,fun x=>absurd x h⟩⟩
 refine ⟨fun _=>?_,fun x=>absurd h x⟩
 rw[if_neg (fun h'=>h' h)] at e
 have hml:=img_len (dataE_ok h).1
 refine ⟨by unfold I64;omega,callIs (.inl rfl) (In_any part 0 _) ⟨fun a1=>?_,fun a1=>?_⟩⟩
 ·rw[if_pos (by omega)] at e
  refine ⟨fun x=>absurd x (by decide:¬((5:Int)=0)),fun _=>?_⟩
  refine ⟨fun x=>absurd x (by decide:¬((5:Int)=0)),fun _=>?_⟩
  refine loopR (ι:=PUnit) (fun _=>[(14,.g (.int 5)),(15,.g (.int 0)),(6,.ptr 0 0),(12,.ptr 1 0)]) (fun _=>[.blk [.g (.sl 4 (m.map Part.g))] 40,.blk [.g (.int 0),.g (.int 0),.nils,.nils,.nils] 76]) (fun _=>True) (fun _=>0) ⟨⟨⟩,[.old 0,.old 1],⟨rfl,.inl rfl,.inr ⟨lk rfl,lk rfl,lk rfl,lk rfl,trivial⟩,rfl⟩,trivial⟩ ?_
  intro Rd hRd i hi
  refine ⟨fun _=>⟨fun x=>absurd x (by decide:¬((5:Int)=0)),fun _=>⟨fun _=>⟨rfl,retZ (runV_bad e (by decide:¬((5:Int)=0))) (e).symm⟩,fun x=>absurd x (by decide:¬((5:Int)=0))⟩⟩,fun _=>⟨fun _=>⟨rfl,retZ (runV_bad e (by decide:¬((5:Int)=0))) (e).symm⟩,fun x=>absurd x (by decide:¬((5:Int)=0))⟩⟩
 obtain ⟨k,hk⟩:∃ k:Nat,part=(k:Int):=⟨part.toNat,by omega⟩
 have hkl:k < m.length:=by omega
 have hpk:Barb.partAt m part=m[k]:=by rw[hk];exact Barb.partAt_at hkl
 have le:(m[k].entries.map Entry.g).length=m[k].entries.length:=List.length_map _
 obtain ⟨himg,hdw⟩:=dataE_ok h
 obtain ⟨hc1,hc2,hc3,hc4⟩:=code_ok himg hkl
 refine ⟨k,_,dI hk,gm hkl,?_⟩
 refine ⟨by unfold I64;omega,callIs (.inl rfl) (In_any entry 0 _) ⟨fun a2=>?_,fun a2=>?_⟩⟩
 ·rw[if_pos (by rw[hpk];omega)] at e
  refine ⟨fun x=>absurd x (by decide:¬((5:Int)=0)),fun _=>?_⟩
  refine ⟨fun x=>absurd x (by decide:¬((5:Int)=0)),fun _=>?_⟩
  refine loopR (ι:=PUnit) (fun _=>[(14,.g (.int 5)),(15,.g (.int 0)),(6,.ptr 0 0),(12,.ptr 1 0)]) (fun _=>[.blk [.g (.sl 4 (m.map Part.g))] 40,.blk [.g (.int 0),.g (.int 0),.nils,.nils,.nils] 76]) (fun _=>True) (fun _=>0) ⟨⟨⟩,[.old 0,.old 1],⟨rfl,.inl rfl,.inr ⟨lk rfl,lk rfl,lk rfl,lk rfl,trivial⟩,rfl⟩,trivial⟩ ?_
  intro Rd hRd i hi
  refine ⟨fun _=>⟨fun x=>absurd x (by decide:¬((5:Int)=0)),fun _=>⟨fun _=>⟨rfl,retZ (runV_bad e (by decide:¬((5:Int)=0))) (e).symm⟩,fun x=>absurd x (by decide:¬((5:Int)=0))⟩⟩,fun _=>⟨fun _=>⟨rfl,retZ (runV_bad e (by decide:¬((5:Int)=0))) (e).symm⟩,fun x=>absurd x (by decide:¬((5:Int)=0))⟩⟩
 obtain ⟨q,hq⟩:∃ q:Nat,entry=(q:Int):=⟨entry.toNat,by omega⟩
 have hql:q < m[k].entries.length:=by omega
 have hent:entAt m part entry=m[k].entries[q]:=by unfold entAt;rw[hpk,hq];exact getD_of hql _
 have hat:=hc4 _ (List.getElem_mem hql)
 rw[if_neg (by rw[hpk];omega),hent] at e
 refine ⟨fun _=>?_,fun x=>absurd h x⟩
 refine ⟨k,_,dI hk,gm hkl,?_⟩
 refine ⟨q,_,dI hq,gm hql,?_⟩
 refine ⟨fun b1=>?_,fun b1=>?_⟩
 ·rw[if_pos (by rw[<- la];exact b1)] at e
  refine ⟨fun x=>absurd x (by decide:¬((7:Int)=0)),fun _=>?_⟩
  refine loopR (ι:=PUnit) (fun _=>[(14,.g (.int 7)),(15,.g (.int 0)),(6,.ptr 0 0),(12,.ptr 1 0)]) (fun _=>[.blk [.g (.sl 4 (m.map Part.g))] 40,.blk [.g (.int 0),.g (.int 0),.nils,.nils,.nils] 76]) (fun _=>True) (fun _=>0) ⟨⟨⟩,[.old 0,.old 1],⟨rfl,.inl rfl,.inr ⟨lk rfl,lk rfl,lk rfl,lk rfl,trivial⟩,rfl⟩,trivial⟩ ?_
  intro Rd hRd i hi
  refine ⟨fun _=>⟨fun x=>absurd x (by decide:¬((7:Int)=0)),fun _=>⟨fun _=>⟨rfl,retZ (runV_bad e (by decide:¬((7:Int)=0))) (e).symm⟩,fun x=>absurd x (by decide:¬((7:Int)=0))⟩⟩,fun _=>⟨fun _=>⟨rfl,retZ (runV_bad e (by decide:¬((7:Int)=0))) (e).symm⟩,fun x=>absurd x (by decide:¬((7:Int)=0))⟩⟩
 rw[if_neg (by rw[<- la];exact fun h'=>h' b1)] at e
 refine ⟨fun _=>?_,fun x=>absurd h x⟩
 refine callIs (.inl rfl) (In_any fuel 0 100000) ⟨fun c1=>?_,fun c1=>?_⟩
 ·rw[if_pos (by omega)] at e
  refine loopR (ι:=PUnit) (fun _=>[(14,.g (.int 2)),(15,.g (.int 0)),(6,.ptr 0 0),(12,.ptr 1 0)]) (fun _=>[.blk [.g (.sl 4 (m.map Part.g))] 40,.blk [.g (.int 0),.g (.int 0),.nils,.nils,.nils] 76]) (fun _=>True) (fun _=>0) ⟨⟨⟩,[.old 0,.old 1],⟨rfl,.inl rfl,.inr ⟨lk rfl,lk rfl,lk rfl,lk rfl,trivial⟩,rfl⟩,trivial⟩ ?_
  intro Rd hRd i hi
  refine ⟨fun _=>⟨fun x=>absurd x (by decide:¬((2:Int)=0)),fun _=>⟨fun _=>⟨rfl,retZ (runV_bad e (by decide:¬((2:Int)=0))) (e).symm⟩,fun x=>absurd x (by decide:¬((2:Int)=0))⟩⟩,fun _=>⟨fun _=>⟨rfl,retZ (runV_bad e (by decide:¬((2:Int)=0))) (e).symm⟩,fun x=>absurd x (by decide:¬((2:Int)=0))⟩⟩
 refine loopR (ι:=Nat × Int) (fun i=>[(15,.g (.int (i.1:Int))),(14,.g (.int i.2)),(6,.ptr 0 0),(12,.ptr 1 0)]) (fun _=>[.blk [.g (.sl 4 (m.map Part.g))] 40,.blk [.g (.int 0),.g (.int 0),.nils,.nils,.nils] 76,.many [] []])
  (fun i=>i.1<=args.length/\((i.2=0/\∀ j (hj:j < args.length),j < i.1->wordN args[j])\/(i.2=2/\∃ n∈args,¬wordN n))) (fun i=>args.length - i.1) ⟨(0,0),[.old 0,.old 1,.many0],⟨rfl,.inl rfl,.inr ⟨lk rfl,lkI h,lk rfl,lk rfl,trivial⟩,rfl⟩,Nat.zero_le _,.inl ⟨rfl,allp_0⟩⟩ ?_
 rintro Rd hRd ⟨i,e1⟩ ⟨hi,hinv⟩
 dsimp only at hi hinv
 have bad2:¬e1=0->runE m d part entry args fuel=2:=fun hne=>by
  rcases hinv with ⟨h0,_⟩ | ⟨_,hx⟩
  ·exact absurd h0 hne
  ·rw[e,if_pos (.inr (.inr hx))]
 have two:¬e1=0->e1=2:=fun hne=>by
  rcases hinv with ⟨h0,_⟩ | ⟨h2,_⟩
  ·exact absurd h0 hne
  ·exact h2
 refine ⟨fun hlt=>⟨fun he=>?_,fun hne=>⟨fun _=>.inl (.inl ⟨rfl,retZ (runV_bad (bad2 hne) (by decide)) ((two hne).trans (bad2 hne).symm)⟩),fun x=>absurd x hne⟩⟩,fun hge=>⟨fun hne=>.inl (.inl ⟨rfl,retZ (runV_bad (bad2 hne) (by decide)) ((two hne).trans (bad2 hne).symm)⟩),fun he=>?_⟩⟩
 ·have he:e1=0:=he
  have hl:i < args.length:=by omega
  have ha:∀ j (hj:j < args.length),j < i->wordN args[j]:=by
   rcases hinv with ⟨_,hx⟩ | ⟨h2,_⟩
   ·exact hx
   ·rw[he] at h2;cases h2
  refine ⟨i,_,rfl,gm hl,.inl (callIs (.inl rfl) (IsWord_any args[i]) ⟨fun hw=>⟨_,I64.wrap (by unfold I64;omega),?_⟩,fun hw=>⟨_,I64.wrap (by unfold I64;omega),?_⟩⟩)⟩
  ·exact hRd _ _ _ ⟨(i+1,2),[.old 0,.old 1,.old 2],⟨rfl,.inl rfl,.inr ⟨lk rfl,lk rfl,lk rfl,lk rfl,trivial⟩,rfl⟩,⟨hl,.inr ⟨rfl,_,List.getElem_mem hl,hw⟩⟩,by show args.length - (i+1) < args.length - i;omega⟩
  ·exact hRd _ _ _ ⟨(i+1,0),[.old 0,.old 1,.old 2],⟨rfl,.inl rfl,.inr ⟨lk rfl,lkI he,lk rfl,lk rfl,trivial⟩,rfl⟩,⟨hl,.inl ⟨rfl,allp_step hl ha hw⟩⟩,by show args.length - (i+1) < args.length - i;omega⟩
 have he:e1=0:=he
 have haw:∀ n∈args,wordN n:=by
  rcases hinv with ⟨_,hx⟩ | ⟨h2,_⟩
  ·exact allp_end (by omega) hx
  ·rw[he] at h2;cases h2
 clear hRd Rd hinv bad2 two
 rw[if_neg (by intro hh;rcases hh with hh | hh | ⟨n,hn,hw⟩;omega;omega;exact hw (haw n hn))] at e
 obtain ⟨n0,hn0⟩:∃ n0:Nat,fuel=(n0:Int):=⟨fuel.toNat,by omega⟩
 have hV:runV m d part entry args fuel=outOf (iterS m n0 ⟨[],d,[]⟩ [⟨part,m[k].entries[q].at_,p8 args,[],-1⟩]):=by
  unfold runV;rw[if_pos e,hent,hn0];rfl
 generalize hF:iterS m n0 ⟨[],d,[]⟩ [⟨part,m[k].entries[q].at_,p8 args,[],-1⟩]=R0 at hV
 refine ⟨⟨by simp[maxLen];omega,by simp;omega⟩,.inl (.inl (.inl ?_))⟩
 refine ⟨k,_,dI hk,gm hkl,?_⟩
 refine ⟨q,_,dI hq,gm hql,.inr (ghRaw (ghNo ?_))⟩
 refine .inl ?_
 refine ⟨_,(p8_set args _ _ _ _).symm,?_⟩
 refine ghNameB 2 5 rfl rfl (fun vb=>ghHide 2 5 vb (.blk (Rm.mk ⟨part,m[k].entries[q].at_,p8 args,[],-1⟩ vb (.slice none 0 0)).g 114) rfl (.head _) rfl ⟨rfl,rfl⟩ (ghNil 2 3 1 (by decide) rfl (ghNo ?_)))
 refine ⟨[[.raw vb]],rfl,rfl,⟨rfl,trivial⟩,?_⟩
 have start:RInv m R0 ⟨n0,⟨[],d,[]⟩,[Rm.mk ⟨part,m[k].entries[q].at_,p8 args,[],-1⟩ vb (.slice none 0 0)]⟩:=by
  refine ⟨by show n0<=100000;omega,⟨himg,hdw,by simp,by simp,by simp,fun f hf=>?_⟩,by simp,hF⟩
  simp only[List.map_cons,List.map_nil,List.mem_cons,List.not_mem_nil,or_false] at hf
  subst hf
  exact ⟨⟨k,hk,hkl⟩,hat.1,by show m[k].entries[q].at_<=2000;omega,rfl,by simp,by simp⟩
 refine loopR (ι:=RS) ROv (ROh m) (RInv m R0) (fun i=>i.n)
  ⟨⟨n0,⟨[],d,[]⟩,[Rm.mk ⟨part,m[k].entries[q].at_,p8 args,[],-1⟩ vb (.slice none 0 0)]⟩,[.old 0,.old 1,.old 4,.nil 3 1,.old 3,.nil 118 7,.old 6,.old 2],⟨rfl,.inr ⟨⟨rfl,.inl rfl⟩,⟨rfl,.inl rfl⟩,⟨rfl,.inr ⟨lk rfl,lk rfl,.inr rfl,lk rfl,.inr rfl,trivial⟩⟩,⟨rfl,rfl,rfl⟩,⟨rfl,rfl,rfl⟩,⟨rfl,rfl,rfl⟩,⟨rfl,rfl,rfl⟩,⟨List.Perm.refl _,rfl⟩,trivial⟩,.inr ⟨lkI hn0,lk rfl,lk rfl,lk rfl,lk rfl,trivial⟩,rfl⟩,start⟩ ?_
 clear start hF
 rintro Rd hRd ⟨n1,o,gs⟩ ⟨hn5,ok,hne,hit⟩
 dsimp only at hn5 ok hne hit
 obtain ⟨pre,t,hgs⟩:∃ pre t,gs=pre++[t]:=by
  rcases List.eq_nil_or_concat gs with h | ⟨pre,t,h⟩
  ·exact absurd h hne
  ·exact ⟨pre,t,by rw[h,List.concat_eq_append]⟩
 subst hgs
 obtain ⟨⟨tp,ta,tl,tw,tn⟩,tb,tv⟩:=t
 obtain ⟨⟨k1,hk1,hkl1⟩,h0,h1,hl8,hws,hnt⟩:=ok.frs ⟨tp,ta,tl,tw,tn⟩ (by simp)
 dsimp only at hk1 hkl1 h0 h1 hl8 hws hnt
 subst hk1
 obtain ⟨j,rfl⟩:∃ j:Nat,ta=(j:Int):=⟨ta.toNat,by omega⟩
 obtain ⟨a0,a1,a2,a3,a4,a5,a6,a7,rfl⟩:=loc8 hl8
 have htold:=ok.told
 have hcalls:=ok.calls
 have hdeep:=ok.deep
 have hdat:=ok.data
 rw[List.length_map,List.length_append,List.length_singleton] at hdeep
 obtain ⟨hc1,hc2,hc3,hc4⟩:=code_ok himg hkl1
 have em:m.getD ((k1:Int)).toNat noPart=m[k1]:=by simp[hkl1]
 have lp:((pre++[Rm.mk ⟨(k1:Int),(j:Int),[a0,a1,a2,a3,a4,a5,a6,a7],tw,tn⟩ tb tv]).map Rm.r).length=pre.length+1:=by simp
 have lw:(tw.map intG).length=tw.length:=List.length_map _
 have lc1:(m[k1].code.map Instr.g).length=m[k1].code.length:=List.length_map _
 refine ⟨fun _=>?_,fun x=>absurd rfl x⟩
 refine ⟨fun hz=>?_,fun hz=>?_⟩
 ·have hz':n1=0:=by have:(n1:Int)=0:=hz;omega
  exact .inl (.inl ⟨rfl,retRO rfl rfl rfl rfl rfl rfl (by rw[hV,<- hit,hz'];rfl) e⟩)
 obtain ⟨n2,rfl⟩:∃ n2,n1=n2+1:=⟨n1 - 1,by have:¬(n1:Int)=0:=hz;omega⟩
 rw[List.map_append,List.map_cons,List.map_nil] at hit ok
 rw[iterS_snoc] at hit
 have hrok:=stepS_ok (m:=m) (o:=o) (pre:=pre.map Rm.f) (t:=⟨(k1:Int),(j:Int),[a0,a1,a2,a3,a4,a5,a6,a7],tw,tn⟩) ok
 have stp:∀ {c v:Int} {o':MO},Barb.stepS m o (pre.map Rm.f) ⟨(k1:Int),(j:Int),[a0,a1,a2,a3,a4,a5,a6,a7],tw,tn⟩=.stop c v o'->runV m d part entry args fuel=outOf (c,v,o'):=fun {c v o'} hx=>by
  rw[show (Rm.mk ⟨(k1:Int),(j:Int),[a0,a1,a2,a3,a4,a5,a6,a7],tw,tn⟩ tb tv).f=⟨(k1:Int),(j:Int),[a0,a1,a2,a3,a4,a5,a6,a7],tw,tn⟩ from rfl,hx] at hit
  rw[hV,<- hit]
 have got:∀ {o':MO} {fs:List Rm},Barb.stepS m o (pre.map Rm.f) ⟨(k1:Int),(j:Int),[a0,a1,a2,a3,a4,a5,a6,a7],tw,tn⟩=.go o' (fs.map Rm.f)->RInv m R0 ⟨n2,o',fs⟩:=fun {o' fs} hx=>by
  rw[show (Rm.mk ⟨(k1:Int),(j:Int),[a0,a1,a2,a3,a4,a5,a6,a7],tw,tn⟩ tb tv).f=⟨(k1:Int),(j:Int),[a0,a1,a2,a3,a4,a5,a6,a7],tw,tn⟩ from rfl,hx] at hit
  rw[hx] at hrok
  exact ⟨by show n2<=100000;omega,hrok.1,fun h=>hrok.2 (by rw[show fs=[] from h];rfl),hit⟩
 clear hrok hit hne hz
 refine ⟨(by show I64 (((n2+1:Nat):Int) - 1);unfold I64;omega),?_⟩
 refine ⟨(by show I64 (((((pre++[Rm.mk ⟨(k1:Int),(j:Int),[a0,a1,a2,a3,a4,a5,a6,a7],tw,tn⟩ tb tv]).map Rm.r).length:Nat):Int) - 1);rw[lp];unfold I64;omega),pre.length,dI (by show ((((pre++[Rm.mk ⟨(k1:Int),(j:Int),[a0,a1,a2,a3,a4,a5,a6,a7],tw,tn⟩ tb tv]).map Rm.r).length:Nat):Int) - 1=_;rw[lp];omega),(by show _ < ((pre++[Rm.mk ⟨(k1:Int),(j:Int),[a0,a1,a2,a3,a4,a5,a6,a7],tw,tn⟩ tb tv]).map Rm.r).length;rw[lp];omega),?_⟩
 refine ⟨_,snoc_at Rm.r pre _,.inr (ghLend 7 (zr pre) [(tv,.row (tw.map intG) 3 1)] (.blk (Rm.mk ⟨(k1:Int),(j:Int),[a0,a1,a2,a3,a4,a5,a6,a7],tw,tn⟩ tb tv).g 114) rfl (zs_snoc _ _ pre (Rm.mk ⟨(k1:Int),(j:Int),[a0,a1,a2,a3,a4,a5,a6,a7],tw,tn⟩ tb tv)) (ghNo ?_))⟩
 refine ⟨none,rfl,k1,_,rfl,gm hkl1,?_⟩
 refine ⟨none,rfl,?_⟩
 refine ⟨fun hge=>?_,fun hlt=>?_⟩
 ·exact .inl (.inl ⟨rfl,retRO rfl rfl rfl rfl rfl rfl (stp (step_out (by rw[em];show (j:Int) >= (m[k1].code.length:Int);have:(j:Int) >= ((m[k1].code.map Instr.g).length:Int):=hge;omega))) e⟩)
 have hjl:j < m[k1].code.length:=by have:¬(j:Int) >= ((m[k1].code.map Instr.g).length:Int):=hlt;omega
 obtain ⟨i,hie⟩:∃ i,m[k1].code[j]=i:=⟨_,rfl⟩
 have hi:instrE i=0:=by rw[<- hie];exact hc3 _ (List.getElem_mem hjl)
 obtain ⟨i1,i2,i3,i4,i5,i6,i7,i8,i9⟩:=instr_rng hi
 have hd:Barb.stepS m o (pre.map Rm.f) ⟨(k1:Int),(j:Int),[a0,a1,a2,a3,a4,a5,a6,a7],tw,tn⟩=doS m m[k1] i o (pre.map Rm.f) ⟨(k1:Int),(j:Int)+1,[a0,a1,a2,a3,a4,a5,a6,a7],tw,tn⟩:=by
  rw[step_in (by rw[em];show ¬(j:Int) >= (m[k1].code.length:Int);omega),em]
  congr 1
  rw[<- hie];simp[hjl]
 refine Dm.stepS ?_
 refine ⟨none,rfl,j,_,rfl,(gm hjl).trans (congrArg (fun z=>some (Instr.g z)) hie),Hold.mk ?_⟩
 refine Dm.stepS ?_
 refine ⟨_,I64.wrap (by show I64 ((j:Int)+1);unfold I64;omega),.inl (Hold.mk ?_)⟩
 refine Dm.stepS (Hold.mk ?_)
 refine seqJ (ι:=Int) (fun nd=>[(5,.g (.int (((n2+1:Nat):Int) - 1))),(6,.ptr 0 0),(12,.ptr 1 0),(16,.ptr 2 0),(18,.row 6),(19,.ptr 8 0),(20,.ptr 9 0),(21,.ptr 10 0),(22,.g (.int nd))])
  (fun _=>ROb m (zr pre++[(tv,.row (tw.map intG) 3 1)]) [(tb,8)] (o.told.map intG) (o.data.map intG) (o.calls.map Nt.g) ((pre++[Rm.mk ⟨(k1:Int),(j:Int),[a0,a1,a2,a3,a4,a5,a6,a7],tw,tn⟩ tb tv]).map Rm.r) [.blk [.g (.int (k1:Int)),.g (.int ((j:Int)+1)),.g (.int a0),.g (.int a1),.g (.int a2),.g (.int a3),.g (.int a4),.g (.int a5),.g (.int a6),.g (.int a7),.g (.raw tv),.g (.int tn)] 114,.blk ((Part.g m[k1]).map D.g) 43,.blk i.d 67])
  (fun nd=>nd=needS i) (fun e0 nd hnd=>?_) (fun Rj hRj=>?_)
 rotate_left
 ·exact ⟨fun d1=>⟨fun _=>hRj 1 _ ⟨rfl,rfl,rfl,rfl,rfl,rfl,rfl,rfl,rfl,trivial⟩ (by unfold needS;rw[if_pos (by omega)]),fun x=>absurd d1 x⟩,fun d1=>⟨fun d2=>⟨fun _=>hRj 1 _ ⟨rfl,rfl,rfl,rfl,rfl,rfl,rfl,rfl,rfl,trivial⟩ (by unfold needS;rw[if_pos (by omega)]),fun x=>absurd d2 x⟩,fun d2=>⟨fun d3=>⟨fun _=>hRj 1 _ ⟨rfl,rfl,rfl,rfl,rfl,rfl,rfl,rfl,rfl,trivial⟩ (by unfold needS;rw[if_pos (by omega)]),fun x=>absurd d3 x⟩,fun d3=>⟨fun d4=>⟨fun _=>hRj 1 _ ⟨rfl,rfl,rfl,rfl,rfl,rfl,rfl,rfl,rfl,trivial⟩ (by unfold needS;rw[if_pos (by omega)]),fun x=>absurd d4 x⟩,fun d4=>⟨fun d5=>⟨fun _=>hRj 1 _ ⟨rfl,rfl,rfl,rfl,rfl,rfl,rfl,rfl,rfl,trivial⟩ (by unfold needS;rw[if_pos (by omega)]),fun x=>absurd d5 x⟩,fun d5=>⟨fun d6=>⟨fun _=>hRj 1 _ ⟨rfl,rfl,rfl,rfl,rfl,rfl,rfl,rfl,rfl,trivial⟩ (by unfold needS;rw[if_pos (by omega)]),fun x=>absurd d6 x⟩,fun d6=>⟨fun d7=>hRj 1 _ ⟨rfl,rfl,rfl,rfl,rfl,rfl,rfl,rfl,rfl,trivial⟩ (by unfold needS;rw[if_pos (by omega)]),fun d7=>⟨fun b1=>⟨fun _=>hRj 2 _ ⟨rfl,rfl,rfl,rfl,rfl,rfl,rfl,rfl,rfl,trivial⟩ (by unfold needS;rw[if_neg (by omega),if_pos (by omega)]),fun x=>absurd b1 x⟩,fun b1=>⟨fun b2=>hRj 2 _ ⟨rfl,rfl,rfl,rfl,rfl,rfl,rfl,rfl,rfl,trivial⟩ (by unfold needS;rw[if_neg (by omega),if_pos (by omega)]),fun b2=>⟨fun b3=>hRj i.b _ ⟨rfl,rfl,rfl,rfl,rfl,rfl,rfl,rfl,rfl,trivial⟩ (by unfold needS;rw[if_neg (by omega),if_neg (by omega),if_pos (by omega)]),fun b3=>⟨fun b4=>hRj i.c _ ⟨rfl,rfl,rfl,rfl,rfl,rfl,rfl,rfl,rfl,trivial⟩ (by unfold needS;rw[if_neg (by omega),if_neg (by omega),if_neg (by omega),if_pos (by omega)]),fun b4=>hRj 0 _ ⟨rfl,rfl,rfl,rfl,rfl,rfl,rfl,rfl,rfl,trivial⟩ (by unfold needS;rw[if_neg (by omega),if_neg (by omega),if_neg (by omega),if_neg (by omega)])⟩⟩⟩⟩⟩⟩⟩⟩⟩⟩⟩
 obtain ⟨hn0,hn8⟩:=need_rng hi
 obtain ⟨qn,hqn⟩:∃ qn:Nat,nd=(qn:Int):=⟨nd.toNat,by omega⟩
 refine .inr (ghLend 7 (zr pre) [] (.row (tw.map intG) 3 1) rfl rfl (ghNo ?_))
 refine ⟨fun hfew=>?_,fun hmany=>?_⟩
 ·exact .inl (.inl ⟨rfl,retRO rfl rfl rfl rfl rfl rfl (stp (hd.trans (doS_few ⟨i1,i2⟩ i5 i7 (by show (tw.length:Int) < _;omega)))) e⟩)
 obtain ⟨kk,hkk⟩:∃ kk:Nat,tw.length=kk+qn:=⟨tw.length - qn,by omega⟩
 refine .inr (ghTag 7 11 rfl (.head _) rfl (ghNo ⟨by unfold I64;omega,?_⟩))
 refine .inr (ghTag 7 11 rfl (.head _) rfl (ghNo ⟨kk,dI (by omega),by omega,.inl ⟨⟨by simp[maxLen];omega,by simp;omega⟩,.inl ?_⟩⟩))
 refine .inr (ghTag 7 11 rfl (.head _) rfl (ghNo ⟨kk,dI (by omega),by omega,.inl ⟨⟨by simp[maxLen];omega,by simp;omega⟩,.inl (.inl ?_)⟩⟩))
 have hL:((tw.map intG).drop kk).take ((tw.map intG).length - kk)=(tw.drop kk).map intG:=by rw[List.take_of_length_le (by simp),List.map_drop]
 have hW:((tw.map intG).drop 0).take kk=(tw.take kk).map intG:=by rw[List.drop_zero,List.map_take]
 have hLl:(((tw.map intG).drop kk).take ((tw.map intG).length - kk)).length=qn:=by rw[hL];simp;omega
 have hWl:(((tw.map intG).drop 0).take kk).length=kk:=by rw[hW];simp;omega
 refine ⟨fun g1=>?_,fun g1=>?_⟩
 ·
  have hq1:qn=0:=by
   have:needS i=0:=by unfold needS;rw[if_neg (by omega),if_neg (by omega),if_neg (by omega),if_neg (by omega)]
   omega
  subst hq1
  refine ⟨[[.int i.a]],rfl,rfl,⟨rfl,trivial⟩,?_⟩
  refine ⟨_,I64.wrap (by show I64 ((((((tw.map intG).drop 0).take kk).length:Nat):Int)+1);rw[hWl];unfold I64;omega),⟨fun x40=>?_,fun x40=>?_⟩⟩
  ·have x41:(kk:Int)+1 > 40:=by have x42:(((((tw.map intG).drop 0).take kk).length:Nat):Int)+1 > 40:=x40;rw[hWl] at x42;exact x42
   exact .inl (.inl ⟨rfl,retRO rfl rfl rfl rfl rfl rfl (stp (hd.trans ((doS_1 g1).trans (by unfold pushS;rw[if_pos (show tw.length=40 by omega)])))) e⟩)
  have x41:¬(kk:Int)+1 > 40:=by have x42:¬(((((tw.map intG).drop 0).take kk).length:Nat):Int)+1 > 40:=x40;rw[hWl] at x42;exact x42
  refine ⟨⟨by simp[maxLen];omega,by simp;omega⟩,.inl (.inr (ghNameC 8 10 7 15 rfl rfl rfl rfl (fun v9=>ghHide 7 8 tb (.blk (Rm.mk ⟨(k1:Int),((j:Int)+1),[a0,a1,a2,a3,a4,a5,a6,a7],(tw++[i.a]),tn⟩ tb v9).g 114) rfl (.tail _ (.tail _ (.head _))) rfl ⟨rfl,rfl⟩ (ghHide 7 15 v9 (.row (List.map intG (tw++[i.a])) 3 1) rfl (.head _) rfl ⟨(by show (((tw.map intG).drop 0).take kk)++[[.int i.a]]=_;rw[hW,List.take_of_length_le (by omega),List.map_append];rfl),rfl,rfl⟩ (ghNo ?_)))))⟩
  exact hRd _ _ _ (endRO (o:=o) (gs:=pre++[Rm.mk ⟨(k1:Int),((j:Int)+1),[a0,a1,a2,a3,a4,a5,a6,a7],(tw++[i.a]),tn⟩ tb v9]) [.old 0,.old 1,.old 2,.old 3,.old 4,.old 5,.old 6,.old 7] rfl rfl rfl rfl rfl rfl rfl rfl (by push_cast;omega) rfl rfl rfl (by rw[List.map_append,List.map_append];rfl) (zperm1 pre (Rm.mk ⟨(k1:Int),((j:Int)+1),[a0,a1,a2,a3,a4,a5,a6,a7],(tw++[i.a]),tn⟩ tb v9)) (got (hd.trans ((doS_1 g1).trans (by unfold pushS;rw[if_neg (show ¬tw.length=40 by omega),List.map_append];rfl)))) (Nat.lt_succ_self n2))
 refine ⟨fun g3=>?_,fun g3=>?_⟩
 ·
  have hq1:qn=1:=by
   have:needS i=1:=by unfold needS;rw[if_pos (by omega)]
   omega
  subst hq1
  obtain ⟨x,hx,hws'⟩:=off_one hkk
  have hL0:((((tw.map intG).drop kk).take ((tw.map intG).length - kk)))[0]?=some [.int x]:=by rw[hL,hx];rfl
  refine ⟨none,rfl,0,rfl,(by show 0 < ((((tw.map intG).drop kk).take ((tw.map intG).length - kk))).length;rw[hLl];omega),[.int x],hL0,0,rfl,(by show 0 < ((((tw.map intG).drop kk).take ((tw.map intG).length - kk))).length;rw[hLl];omega),[.int x],hL0,[[.int x],[.int x]],rfl,rfl,⟨rfl,rfl,trivial⟩,?_⟩
  have hdup:(tw++[x]).map intG=(tw.take kk).map intG++[[.int x],[.int x]]:=by
   rw[List.map_append];conv=>lhs;rw[hws']
   simp[intG]
  refine ⟨_,I64.wrap (by show I64 ((((((tw.map intG).drop 0).take kk).length:Nat):Int)+2);rw[hWl];unfold I64;omega),⟨fun x40=>?_,fun x40=>?_⟩⟩
  ·have x41:(kk:Int)+2 > 40:=by have x42:(((((tw.map intG).drop 0).take kk).length:Nat):Int)+2 > 40:=x40;rw[hWl] at x42;exact x42
   exact .inl (.inl ⟨rfl,retRO rfl rfl rfl rfl rfl rfl (stp (hd.trans ((doS_3 g3 hkk hx).trans (if_pos (show tw.length=40 by omega))))) e⟩)
  have x41:¬(kk:Int)+2 > 40:=by have x42:¬(((((tw.map intG).drop 0).take kk).length:Nat):Int)+2 > 40:=x40;rw[hWl] at x42;exact x42
  refine ⟨⟨by simp[maxLen];omega,by simp;omega⟩,.inl (.inr (ghNameC 8 10 7 15 rfl rfl rfl rfl (fun v9=>ghHide 7 8 tb (.blk (Rm.mk ⟨(k1:Int),((j:Int)+1),[a0,a1,a2,a3,a4,a5,a6,a7],(tw++[x]),tn⟩ tb v9).g 114) rfl (.tail _ (.tail _ (.head _))) rfl ⟨rfl,rfl⟩ (ghHide 7 15 v9 (.row (List.map intG (tw++[x])) 3 1) rfl (.head _) rfl ⟨(by show (((tw.map intG).drop 0).take kk)++[[.int x],[.int x]]=_;rw[hW,hdup]),rfl,rfl⟩ (ghNo ?_)))))⟩
  exact hRd _ _ _ (endRO (o:=o) (gs:=pre++[Rm.mk ⟨(k1:Int),((j:Int)+1),[a0,a1,a2,a3,a4,a5,a6,a7],(tw++[x]),tn⟩ tb v9]) [.old 0,.old 1,.old 2,.old 3,.old 4,.old 5,.old 6,.old 7] rfl rfl rfl rfl rfl rfl rfl rfl (by push_cast;omega) rfl rfl rfl (by rw[List.map_append,List.map_append];rfl) (zperm1 pre (Rm.mk ⟨(k1:Int),((j:Int)+1),[a0,a1,a2,a3,a4,a5,a6,a7],(tw++[x]),tn⟩ tb v9)) (got (hd.trans ((doS_3 g3 hkk hx).trans (by rw[if_neg (show ¬tw.length=40 by omega),List.map_append];rfl)))) (Nat.lt_succ_self n2))
 refine ⟨fun g4=>?_,fun g4=>?_⟩
 ·
  have hq1:qn=0:=by
   have:needS i=0:=by unfold needS;rw[if_neg (by omega),if_neg (by omega),if_neg (by omega),if_neg (by omega)]
   omega
  subst hq1
  have hb4:i.a<=7:=by rw[g4] at i4;exact i4
  obtain ⟨ja,hja⟩:∃ ja:Nat,i.a=(ja:Int):=⟨i.a.toNat,by omega⟩
  have hja8:ja < 8:=by omega
  obtain ⟨x,hx⟩:∃ x,[a0,a1,a2,a3,a4,a5,a6,a7].getD ja 0=x:=⟨_,rfl⟩
  refine ⟨none,rfl,ja,dI hja,hja8,getK_at ((cell_at (.g (.int (k1:Int))) (.g (.int ((j:Int)+1))) [a0,a1,a2,a3,a4,a5,a6,a7] [.row 13,.g (.int tn)] hja8).trans (by rw[hx])) ?_⟩
  refine ⟨[[.int x]],rfl,rfl,⟨rfl,trivial⟩,?_⟩
  refine ⟨_,I64.wrap (by show I64 ((((((tw.map intG).drop 0).take kk).length:Nat):Int)+1);rw[hWl];unfold I64;omega),⟨fun x40=>?_,fun x40=>?_⟩⟩
  ·have x41:(kk:Int)+1 > 40:=by have x42:(((((tw.map intG).drop 0).take kk).length:Nat):Int)+1 > 40:=x40;rw[hWl] at x42;exact x42
   exact .inl (.inl ⟨rfl,retRO rfl rfl rfl rfl rfl rfl (stp (hd.trans ((doS_4 g4).trans (by unfold pushS;rw[if_pos (show tw.length=40 by omega)])))) e⟩)
  have x41:¬(kk:Int)+1 > 40:=by have x42:¬(((((tw.map intG).drop 0).take kk).length:Nat):Int)+1 > 40:=x40;rw[hWl] at x42;exact x42
  refine ⟨⟨by simp[maxLen];omega,by simp;omega⟩,.inl (.inr (ghNameC 8 10 7 15 rfl rfl rfl rfl (fun v9=>ghHide 7 8 tb (.blk (Rm.mk ⟨(k1:Int),((j:Int)+1),[a0,a1,a2,a3,a4,a5,a6,a7],(tw++[x]),tn⟩ tb v9).g 114) rfl (.tail _ (.tail _ (.head _))) rfl ⟨rfl,rfl⟩ (ghHide 7 15 v9 (.row (List.map intG (tw++[x])) 3 1) rfl (.head _) rfl ⟨(by show (((tw.map intG).drop 0).take kk)++[[.int x]]=_;rw[hW,List.take_of_length_le (by omega),List.map_append];rfl),rfl,rfl⟩ (ghNo ?_)))))⟩
  exact hRd _ _ _ (endRO (o:=o) (gs:=pre++[Rm.mk ⟨(k1:Int),((j:Int)+1),[a0,a1,a2,a3,a4,a5,a6,a7],(tw++[x]),tn⟩ tb v9]) [.old 0,.old 1,.old 2,.old 3,.old 4,.old 5,.old 6,.old 7] rfl rfl rfl rfl rfl rfl rfl rfl (by push_cast;omega) rfl rfl rfl (by rw[List.map_append,List.map_append];rfl) (zperm1 pre (Rm.mk ⟨(k1:Int),((j:Int)+1),[a0,a1,a2,a3,a4,a5,a6,a7],(tw++[x]),tn⟩ tb v9)) (got (hd.trans ((doS_4 g4).trans (by rw[hja,show (Barb.PF.locs ⟨(k1:Int),(j:Int)+1,[a0,a1,a2,a3,a4,a5,a6,a7],tw,tn⟩).getD ((ja:Int)).toNat 0=x from hx];unfold pushS;rw[if_neg (show ¬tw.length=40 by omega),List.map_append];rfl)))) (Nat.lt_succ_self n2))
 refine ⟨fun g5=>?_,fun g5=>?_⟩
 ·
  have hq1:qn=1:=by
   have:needS i=1:=by unfold needS;rw[if_pos (by omega)]
   omega
  subst hq1
  obtain ⟨x,hx,hws'⟩:=off_one hkk
  have hL0:((((tw.map intG).drop kk).take ((tw.map intG).length - kk)))[0]?=some [.int x]:=by rw[hL,hx];rfl
  have hb5:i.a<=7:=by rw[g5] at i4;exact i4
  obtain ⟨ja,hja⟩:∃ ja:Nat,i.a=(ja:Int):=⟨i.a.toNat,by omega⟩
  have hja8:ja < 8:=by omega
  obtain ⟨c0,c1,c2,c3,c4,c5,c6,c7,hcs⟩:=loc8 (l:=[a0,a1,a2,a3,a4,a5,a6,a7].set ja x) (by rw[List.length_set];rfl)
  have hput:=cell_put (.g (.int (k1:Int))) (.g (.int ((j:Int)+1))) [a0,a1,a2,a3,a4,a5,a6,a7] [.row 13,.g (.int tn)] (j:=ja) hja8 x
  rw[hcs] at hput
  refine ⟨some 9999,[9],rfl,0,rfl,(by show 0 < ((((tw.map intG).drop kk).take ((tw.map intG).length - kk))).length;rw[hLl];omega),[.int x],hL0,ja,dI hja,hja8,condI (by show Nat.ble (0+2+ja*1+1) 12=true;rw[Nat.ble_eq];omega) ?_⟩
  refine .inr (ghEq (h2:=ROb m (zr pre++[]) [(tv,11),(tb,8)] (o.told.map intG) (o.data.map intG) (o.calls.map Nt.g) ((pre++[Rm.mk ⟨(k1:Int),(j:Int),[a0,a1,a2,a3,a4,a5,a6,a7],tw,tn⟩ tb tv]).map Rm.r) [.blk [.g (.int (k1:Int)),.g (.int ((j:Int)+1)),.g (.int c0),.g (.int c1),.g (.int c2),.g (.int c3),.g (.int c4),.g (.int c5),.g (.int c6),.g (.int c7),.row 13,.g (.int tn)] 114,.blk ((Part.g m[k1]).map D.g) 43,.blk i.d 67,.row (tw.map intG) 3 1,.row ((((tw.map intG).drop kk).take ((tw.map intG).length - kk))) 3 1,.row (((tw.map intG).drop 0).take kk) 3 1]) ?_ (ghNo ?_))
  ·exact congrArg (fun z=>ROb m (zr pre++[]) [(tv,11),(tb,8)] (o.told.map intG) (o.data.map intG) (o.calls.map Nt.g) ((pre++[Rm.mk ⟨(k1:Int),(j:Int),[a0,a1,a2,a3,a4,a5,a6,a7],tw,tn⟩ tb tv]).map Rm.r) [.blk z 114,.blk ((Part.g m[k1]).map D.g) 43,.blk i.d 67,.row (tw.map intG) 3 1,.row ((((tw.map intG).drop kk).take ((tw.map intG).length - kk))) 3 1,.row (((tw.map intG).drop 0).take kk) 3 1]) hput
  refine ⟨_,I64.wrap (by show I64 ((((((tw.map intG).drop 0).take kk).length:Nat):Int)+0);rw[hWl];unfold I64;omega),⟨fun x=>absurd x (by show ¬(((((tw.map intG).drop 0).take kk).length:Nat):Int)+0 > 40;rw[hWl];omega),fun _=>?_⟩⟩
  refine ⟨⟨by simp[maxLen];omega,by simp;omega⟩,.inl (.inr (ghNameC 8 10 7 14 rfl rfl rfl rfl (fun v9=>ghHide 7 8 tb (.blk (Rm.mk ⟨(k1:Int),((j:Int)+1),[c0,c1,c2,c3,c4,c5,c6,c7],(tw.take kk),tn⟩ tb v9).g 114) rfl (.tail _ (.tail _ (.head _))) rfl ⟨rfl,rfl⟩ (ghHide 7 14 v9 (.row (List.map intG (tw.take kk)) 3 1) rfl (.head _) rfl ⟨(by show (((tw.map intG).drop 0).take kk)++[]=_;rw[List.append_nil,hW]),rfl,rfl⟩ (ghNo ?_)))))⟩
  exact hRd _ _ _ (endRO (o:=o) (gs:=pre++[Rm.mk ⟨(k1:Int),((j:Int)+1),[c0,c1,c2,c3,c4,c5,c6,c7],(tw.take kk),tn⟩ tb v9]) [.old 0,.old 1,.old 2,.old 3,.old 4,.old 5,.old 6,.old 7] rfl rfl rfl rfl rfl rfl rfl rfl (by push_cast;omega) rfl rfl rfl (by rw[List.map_append,List.map_append];rfl) (zperm1 pre (Rm.mk ⟨(k1:Int),((j:Int)+1),[c0,c1,c2,c3,c4,c5,c6,c7],(tw.take kk),tn⟩ tb v9)) (got (hd.trans ((doS_5 g5 hkk hx).trans (by rw[hja,show (Barb.PF.locs ⟨(k1:Int),(j:Int)+1,[a0,a1,a2,a3,a4,a5,a6,a7],tw,tn⟩).set ((ja:Int)).toNat x=[c0,c1,c2,c3,c4,c5,c6,c7] from hcs,List.map_append];rfl)))) (Nat.lt_succ_self n2))
 refine ⟨fun g6=>?_,fun g6=>?_⟩
 ·
  have hq1:qn=1:=by
   have:needS i=1:=by unfold needS;rw[if_pos (by omega)]
   omega
  subst hq1
  obtain ⟨x,hx,hws'⟩:=off_one hkk
  have hL0:((((tw.map intG).drop kk).take ((tw.map intG).length - kk)))[0]?=some [.int x]:=by rw[hL,hx];rfl
  have himx:=img_in himg hkl1
  refine ⟨none,rfl,0,rfl,(by show 0 < ((((tw.map intG).drop kk).take ((tw.map intG).length - kk))).length;rw[hLl];omega),[.int x],hL0,by unfold I64;omega,_,_,.inl rfl,In_any x m[k1].lo (m[k1].hi - 1),rfl,?_⟩
  refine ⟨fun ho=>?_,fun ho=>?_⟩
  ·exact .inl (.inl ⟨rfl,retRO rfl rfl rfl rfl rfl rfl (stp (hd.trans ((doS_6 g6 hkk hx).trans (if_neg (fun hh=>ho ⟨hh.1,by have:=hh.2;omega⟩))))) e⟩)
  have ho':isOwn m[k1] x:=⟨ho.1,by omega⟩
  obtain ⟨nx,hxn,hnx⟩:=isOwn_at himg hdat hkl1 ho'
  have hv:o.data.getD x.toNat 0=o.data[nx]:=by rw[hxn];simp[hnx]
  have hnx':nx < (o.data.map intG).length:=by rw[List.length_map];exact hnx
  refine ⟨none,rfl,0,rfl,(by show 0 < ((((tw.map intG).drop kk).take ((tw.map intG).length - kk))).length;rw[hLl];omega),[.int x],hL0,nx,dI hxn,hnx',_,gm hnx,?_⟩
  refine ⟨[[.int o.data[nx]]],rfl,rfl,⟨rfl,trivial⟩,?_⟩
  refine ⟨_,I64.wrap (by show I64 ((((((tw.map intG).drop 0).take kk).length:Nat):Int)+1);rw[hWl];unfold I64;omega),⟨fun x40=>?_,fun x40=>?_⟩⟩
  ·have x41:(kk:Int)+1 > 40:=by have x42:(((((tw.map intG).drop 0).take kk).length:Nat):Int)+1 > 40:=x40;rw[hWl] at x42;exact x42
   exact absurd x41 (by omega)
  have x41:¬(kk:Int)+1 > 40:=by have x42:¬(((((tw.map intG).drop 0).take kk).length:Nat):Int)+1 > 40:=x40;rw[hWl] at x42;exact x42
  refine ⟨⟨by simp[maxLen];omega,by simp;omega⟩,.inl (.inr (ghNameC 8 10 7 15 rfl rfl rfl rfl (fun v9=>ghHide 7 8 tb (.blk (Rm.mk ⟨(k1:Int),((j:Int)+1),[a0,a1,a2,a3,a4,a5,a6,a7],(tw.take kk++[o.data[nx]]),tn⟩ tb v9).g 114) rfl (.tail _ (.tail _ (.head _))) rfl ⟨rfl,rfl⟩ (ghHide 7 15 v9 (.row (List.map intG (tw.take kk++[o.data[nx]])) 3 1) rfl (.head _) rfl ⟨(by show (((tw.map intG).drop 0).take kk)++[[.int o.data[nx]]]=_;rw[hW,List.map_append];rfl),rfl,rfl⟩ (ghNo ?_)))))⟩
  exact hRd _ _ _ (endRO (o:=o) (gs:=pre++[Rm.mk ⟨(k1:Int),((j:Int)+1),[a0,a1,a2,a3,a4,a5,a6,a7],(tw.take kk++[o.data[nx]]),tn⟩ tb v9]) [.old 0,.old 1,.old 2,.old 3,.old 4,.old 5,.old 6,.old 7] rfl rfl rfl rfl rfl rfl rfl rfl (by push_cast;omega) rfl rfl rfl (by rw[List.map_append,List.map_append];rfl) (zperm1 pre (Rm.mk ⟨(k1:Int),((j:Int)+1),[a0,a1,a2,a3,a4,a5,a6,a7],(tw.take kk++[o.data[nx]]),tn⟩ tb v9)) (got (hd.trans ((doS_6 g6 hkk hx).trans ((if_pos ho').trans (by rw[hv,List.map_append];rfl))))) (Nat.lt_succ_self n2))
 refine ⟨fun g7=>?_,fun g7=>?_⟩
 ·
  have hq1:qn=2:=by
   have:needS i=2:=by unfold needS;rw[if_neg (by omega),if_pos (by omega)]
   omega
  subst hq1
  obtain ⟨x,y,hx,hws'⟩:=off_two hkk
  have hL0:((((tw.map intG).drop kk).take ((tw.map intG).length - kk)))[0]?=some [.int x]:=by rw[hL,hx];rfl
  have hL1:((((tw.map intG).drop kk).take ((tw.map intG).length - kk)))[1]?=some [.int y]:=by rw[hL,hx];rfl
  have himx:=img_in himg hkl1
  refine ⟨none,rfl,0,rfl,(by show 0 < ((((tw.map intG).drop kk).take ((tw.map intG).length - kk))).length;rw[hLl];omega),[.int x],hL0,by unfold I64;omega,_,_,.inl rfl,In_any x m[k1].lo (m[k1].hi - 1),rfl,?_⟩
  refine ⟨fun ho=>?_,fun ho=>?_⟩
  ·exact .inl (.inl ⟨rfl,retRO rfl rfl rfl rfl rfl rfl (stp (hd.trans ((doS_7 g7 hkk hx).trans (if_neg (fun hh=>ho ⟨hh.1,by have:=hh.2;omega⟩))))) e⟩)
  have ho':isOwn m[k1] x:=⟨ho.1,by omega⟩
  obtain ⟨nx,hxn,hnx⟩:=isOwn_at himg hdat hkl1 ho'
  have hnx':nx < (o.data.map intG).length:=by rw[List.length_map];exact hnx
  have hset:o.data.set x.toNat y=o.data.set nx y:=by rw[hxn];rfl
  refine ⟨some 9999,[9],rfl,0,rfl,(by show 0 < ((((tw.map intG).drop kk).take ((tw.map intG).length - kk))).length;rw[hLl];omega),[.int x],hL0,1,rfl,(by show 1 < ((((tw.map intG).drop kk).take ((tw.map intG).length - kk))).length;rw[hLl];omega),[.int y],hL1,nx,dI hxn,hnx',?_⟩
  refine ⟨_,[.int y],gm hnx,⟨rfl,trivial⟩,Nat.le_refl 1,(fun h=>by cases h),.inl ?_⟩
  refine ⟨_,I64.wrap (by show I64 ((((((tw.map intG).drop 0).take kk).length:Nat):Int)+0);rw[hWl];unfold I64;omega),⟨fun x=>absurd x (by show ¬(((((tw.map intG).drop 0).take kk).length:Nat):Int)+0 > 40;rw[hWl];omega),fun _=>?_⟩⟩
  refine ⟨⟨by simp[maxLen];omega,by simp;omega⟩,.inl (.inr (ghNameC 8 10 7 14 rfl rfl rfl rfl (fun v9=>ghHide 7 8 tb (.blk (Rm.mk ⟨(k1:Int),((j:Int)+1),[a0,a1,a2,a3,a4,a5,a6,a7],(tw.take kk),tn⟩ tb v9).g 114) rfl (.tail _ (.tail _ (.head _))) rfl ⟨rfl,rfl⟩ (ghHide 7 14 v9 (.row (List.map intG (tw.take kk)) 3 1) rfl (.head _) rfl ⟨(by show (((tw.map intG).drop 0).take kk)++[]=_;rw[List.append_nil,hW]),rfl,rfl⟩ (ghNo ?_)))))⟩
  exact hRd _ _ _ (endRO (o:={ o with data:=o.data.set nx y }) (gs:=pre++[Rm.mk ⟨(k1:Int),((j:Int)+1),[a0,a1,a2,a3,a4,a5,a6,a7],(tw.take kk),tn⟩ tb v9]) [.old 0,.old 1,.old 2,.old 3,.old 4,.old 5,.old 6,.old 7] rfl rfl rfl rfl rfl rfl rfl rfl (by push_cast;omega) rfl (by rw[List.map_set];rfl) rfl (by rw[List.map_append,List.map_append];rfl) (zperm1 pre (Rm.mk ⟨(k1:Int),((j:Int)+1),[a0,a1,a2,a3,a4,a5,a6,a7],(tw.take kk),tn⟩ tb v9)) (got (hd.trans ((doS_7 g7 hkk hx).trans ((if_pos ho').trans (by rw[hset,List.map_append];rfl))))) (Nat.lt_succ_self n2))
 refine ⟨fun g8=>?_,fun g8=>?_⟩
 ·
  have hq1:qn=2:=by
   have:needS i=2:=by unfold needS;rw[if_neg (by omega),if_pos (by omega)]
   omega
  subst hq1
  obtain ⟨x,y,hx,hws'⟩:=off_two hkk
  have hL0:((((tw.map intG).drop kk).take ((tw.map intG).length - kk)))[0]?=some [.int x]:=by rw[hL,hx];rfl
  have hL1:((((tw.map intG).drop kk).take ((tw.map intG).length - kk)))[1]?=some [.int y]:=by rw[hL,hx];rfl
  refine ⟨none,rfl,0,rfl,(by show 0 < ((((tw.map intG).drop kk).take ((tw.map intG).length - kk))).length;rw[hLl];omega),[.int x],hL0,1,rfl,(by show 1 < ((((tw.map intG).drop kk).take ((tw.map intG).length - kk))).length;rw[hLl];omega),[.int y],hL1,_,_,.inl rfl,DidOf_any i.a x y,rfl,?_⟩
  refine ⟨[[.int (doI i.a x y)]],rfl,rfl,⟨rfl,trivial⟩,?_⟩
  refine ⟨_,I64.wrap (by show I64 ((((((tw.map intG).drop 0).take kk).length:Nat):Int)+1);rw[hWl];unfold I64;omega),⟨fun x40=>?_,fun x40=>?_⟩⟩
  ·have x41:(kk:Int)+1 > 40:=by have x42:(((((tw.map intG).drop 0).take kk).length:Nat):Int)+1 > 40:=x40;rw[hWl] at x42;exact x42
   exact absurd x41 (by omega)
  have x41:¬(kk:Int)+1 > 40:=by have x42:¬(((((tw.map intG).drop 0).take kk).length:Nat):Int)+1 > 40:=x40;rw[hWl] at x42;exact x42
  refine ⟨⟨by simp[maxLen];omega,by simp;omega⟩,.inl (.inr (ghNameC 8 10 7 15 rfl rfl rfl rfl (fun v9=>ghHide 7 8 tb (.blk (Rm.mk ⟨(k1:Int),((j:Int)+1),[a0,a1,a2,a3,a4,a5,a6,a7],(tw.take kk++[doI i.a x y]),tn⟩ tb v9).g 114) rfl (.tail _ (.tail _ (.head _))) rfl ⟨rfl,rfl⟩ (ghHide 7 15 v9 (.row (List.map intG (tw.take kk++[doI i.a x y])) 3 1) rfl (.head _) rfl ⟨(by show (((tw.map intG).drop 0).take kk)++[[.int (doI i.a x y)]]=_;rw[hW,List.map_append];rfl),rfl,rfl⟩ (ghNo ?_)))))⟩
  exact hRd _ _ _ (endRO (o:=o) (gs:=pre++[Rm.mk ⟨(k1:Int),((j:Int)+1),[a0,a1,a2,a3,a4,a5,a6,a7],(tw.take kk++[doI i.a x y]),tn⟩ tb v9]) [.old 0,.old 1,.old 2,.old 3,.old 4,.old 5,.old 6,.old 7] rfl rfl rfl rfl rfl rfl rfl rfl (by push_cast;omega) rfl rfl rfl (by rw[List.map_append,List.map_append];rfl) (zperm1 pre (Rm.mk ⟨(k1:Int),((j:Int)+1),[a0,a1,a2,a3,a4,a5,a6,a7],(tw.take kk++[doI i.a x y]),tn⟩ tb v9)) (got (hd.trans ((doS_8 g8 hkk hx).trans (by rw[List.map_append];rfl)))) (Nat.lt_succ_self n2))
 refine ⟨fun g9=>?_,fun g9=>?_⟩
 ·
  have hq1:qn=0:=by
   have:needS i=0:=by unfold needS;rw[if_neg (by omega),if_neg (by omega),if_neg (by omega),if_neg (by omega)]
   omega
  subst hq1
  refine .inl ?_
  refine ⟨_,I64.wrap (by show I64 ((((((tw.map intG).drop 0).take kk).length:Nat):Int)+0);rw[hWl];unfold I64;omega),⟨fun x=>absurd x (by show ¬(((((tw.map intG).drop 0).take kk).length:Nat):Int)+0 > 40;rw[hWl];omega),fun _=>?_⟩⟩
  refine ⟨⟨by simp[maxLen];omega,by simp;omega⟩,.inl (.inr (ghNameC 8 10 7 14 rfl rfl rfl rfl (fun v9=>ghHide 7 8 tb (.blk (Rm.mk ⟨(k1:Int),i.a,[a0,a1,a2,a3,a4,a5,a6,a7],tw,tn⟩ tb v9).g 114) rfl (.tail _ (.tail _ (.head _))) rfl ⟨rfl,rfl⟩ (ghHide 7 14 v9 (.row (List.map intG tw) 3 1) rfl (.head _) rfl ⟨(by show (((tw.map intG).drop 0).take kk)++[]=_;rw[List.append_nil,hW,List.take_of_length_le (by omega)]),rfl,rfl⟩ (ghNo ?_)))))⟩
  exact hRd _ _ _ (endRO (o:=o) (gs:=pre++[Rm.mk ⟨(k1:Int),i.a,[a0,a1,a2,a3,a4,a5,a6,a7],tw,tn⟩ tb v9]) [.old 0,.old 1,.old 2,.old 3,.old 4,.old 5,.old 6,.old 7] rfl rfl rfl rfl rfl rfl rfl rfl (by push_cast;omega) rfl rfl rfl (by rw[List.map_append,List.map_append];rfl) (zperm1 pre (Rm.mk ⟨(k1:Int),i.a,[a0,a1,a2,a3,a4,a5,a6,a7],tw,tn⟩ tb v9)) (got (hd.trans ((doS_9 g9).trans (by rw[List.map_append];rfl)))) (Nat.lt_succ_self n2))
 refine ⟨fun g10=>?_,fun g10=>?_⟩
 ·
  have hq1:qn=1:=by
   have:needS i=1:=by unfold needS;rw[if_pos (by omega)]
   omega
  subst hq1
  obtain ⟨x,hx,hws'⟩:=off_one hkk
  have hL0:((((tw.map intG).drop kk).take ((tw.map intG).length - kk)))[0]?=some [.int x]:=by rw[hL,hx];rfl
  refine ⟨0,rfl,(by show 0 < ((((tw.map intG).drop kk).take ((tw.map intG).length - kk))).length;rw[hLl];omega),[.int x],hL0,⟨fun hz=>?_,fun hz=>?_⟩⟩
  ·refine .inl ?_
   refine ⟨_,I64.wrap (by show I64 ((((((tw.map intG).drop 0).take kk).length:Nat):Int)+0);rw[hWl];unfold I64;omega),⟨fun x=>absurd x (by show ¬(((((tw.map intG).drop 0).take kk).length:Nat):Int)+0 > 40;rw[hWl];omega),fun _=>?_⟩⟩
   refine ⟨⟨by simp[maxLen];omega,by simp;omega⟩,.inl (.inr (ghNameC 8 10 7 14 rfl rfl rfl rfl (fun v9=>ghHide 7 8 tb (.blk (Rm.mk ⟨(k1:Int),i.a,[a0,a1,a2,a3,a4,a5,a6,a7],(tw.take kk),tn⟩ tb v9).g 114) rfl (.tail _ (.tail _ (.head _))) rfl ⟨rfl,rfl⟩ (ghHide 7 14 v9 (.row (List.map intG (tw.take kk)) 3 1) rfl (.head _) rfl ⟨(by show (((tw.map intG).drop 0).take kk)++[]=_;rw[List.append_nil,hW]),rfl,rfl⟩ (ghNo ?_)))))⟩
   exact hRd _ _ _ (endRO (o:=o) (gs:=pre++[Rm.mk ⟨(k1:Int),i.a,[a0,a1,a2,a3,a4,a5,a6,a7],(tw.take kk),tn⟩ tb v9]) [.old 0,.old 1,.old 2,.old 3,.old 4,.old 5,.old 6,.old 7] rfl rfl rfl rfl rfl rfl rfl rfl (by push_cast;omega) rfl rfl rfl (by rw[List.map_append,List.map_append];rfl) (zperm1 pre (Rm.mk ⟨(k1:Int),i.a,[a0,a1,a2,a3,a4,a5,a6,a7],(tw.take kk),tn⟩ tb v9)) (got (hd.trans ((doS_10 g10 hkk hx).trans (by rw[if_pos hz,List.map_append];rfl)))) (Nat.lt_succ_self n2))
  ·
   refine ⟨_,I64.wrap (by show I64 ((((((tw.map intG).drop 0).take kk).length:Nat):Int)+0);rw[hWl];unfold I64;omega),⟨fun x=>absurd x (by show ¬(((((tw.map intG).drop 0).take kk).length:Nat):Int)+0 > 40;rw[hWl];omega),fun _=>?_⟩⟩
   refine ⟨⟨by simp[maxLen];omega,by simp;omega⟩,.inl (.inr (ghNameC 8 10 7 14 rfl rfl rfl rfl (fun v9=>ghHide 7 8 tb (.blk (Rm.mk ⟨(k1:Int),((j:Int)+1),[a0,a1,a2,a3,a4,a5,a6,a7],(tw.take kk),tn⟩ tb v9).g 114) rfl (.tail _ (.tail _ (.head _))) rfl ⟨rfl,rfl⟩ (ghHide 7 14 v9 (.row (List.map intG (tw.take kk)) 3 1) rfl (.head _) rfl ⟨(by show (((tw.map intG).drop 0).take kk)++[]=_;rw[List.append_nil,hW]),rfl,rfl⟩ (ghNo ?_)))))⟩
   exact hRd _ _ _ (endRO (o:=o) (gs:=pre++[Rm.mk ⟨(k1:Int),((j:Int)+1),[a0,a1,a2,a3,a4,a5,a6,a7],(tw.take kk),tn⟩ tb v9]) [.old 0,.old 1,.old 2,.old 3,.old 4,.old 5,.old 6,.old 7] rfl rfl rfl rfl rfl rfl rfl rfl (by push_cast;omega) rfl rfl rfl (by rw[List.map_append,List.map_append];rfl) (zperm1 pre (Rm.mk ⟨(k1:Int),((j:Int)+1),[a0,a1,a2,a3,a4,a5,a6,a7],(tw.take kk),tn⟩ tb v9)) (got (hd.trans ((doS_10 g10 hkk hx).trans (by rw[if_neg hz,List.map_append];rfl)))) (Nat.lt_succ_self n2))
 refine ⟨fun g11=>⟨fun _=>?_,fun x=>absurd g11 x⟩,fun g11=>⟨fun g12=>?_,fun g12=>?_⟩⟩
 ·
  have hb11:i.b<=4:=by rw[g11] at i6;exact i6
  have hqb:i.b=(qn:Int):=by
   have:needS i=i.b:=by unfold needS;rw[if_neg (by omega),if_neg (by omega),if_pos g11]
   omega
  refine ⟨none,rfl,?_⟩
  refine ⟨fun x=>absurd x (by omega),fun _=>?_⟩
  refine ⟨fun h20=>?_,fun h20=>?_⟩
  ·have h21:pre.length+1=20:=by have h22:(((pre++[Rm.mk ⟨(k1:Int),(j:Int),[a0,a1,a2,a3,a4,a5,a6,a7],tw,tn⟩ tb tv]).map Rm.r).length:Int) >= 20:=h20;rw[lp] at h22;omega
   exact .inl (.inl ⟨rfl,retRO rfl rfl rfl rfl rfl rfl (stp (hd.trans ((doS_11 g11 hqb hkk).trans (if_pos (by rw[List.length_map];exact h21))))) e⟩)
  have h21:¬pre.length+1=20:=by have h22:¬(((pre++[Rm.mk ⟨(k1:Int),(j:Int),[a0,a1,a2,a3,a4,a5,a6,a7],tw,tn⟩ tb tv]).map Rm.r).length:Int) >= 20:=h20;rw[lp] at h22;omega
  refine .inl ?_
  refine ⟨_,p8_from hL _ _ _ _,?_⟩
  refine ghNilC 14 10 rfl rfl (ghNameB 7 14 rfl rfl (fun v2=>ghHide 7 14 v2 (.blk (Rm.g (Rm.mk ⟨(k1:Int),i.a,p8 (tw.drop kk),[],-1⟩ v2 (.slice none 0 0))) 114) rfl (.head _) rfl ⟨rfl,rfl⟩ (ghNil 7 3 1 (by decide) rfl (ghNo ?_))))
  refine ⟨[[.raw v2]],rfl,rfl,⟨rfl,trivial⟩,⟨by simp[maxLen];omega,by simp;omega⟩,.inl ?_⟩
  refine ⟨_,I64.wrap (by show I64 ((((((tw.map intG).drop 0).take kk).length:Nat):Int)+0);rw[hWl];unfold I64;omega),⟨fun x=>absurd x (by show ¬(((((tw.map intG).drop 0).take kk).length:Nat):Int)+0 > 40;rw[hWl];omega),fun _=>?_⟩⟩
  refine ⟨⟨by simp[maxLen];omega,by simp;omega⟩,.inl (.inr (ghNameC 8 10 7 17 rfl rfl rfl rfl (fun v9=>ghHide 7 8 tb (.blk (Rm.mk ⟨(k1:Int),((j:Int)+1),[a0,a1,a2,a3,a4,a5,a6,a7],(tw.take kk),tn⟩ tb v9).g 114) rfl (.tail _ (.tail _ (.tail _ (.head _)))) rfl ⟨rfl,rfl⟩ (ghHide 7 17 v9 (.row (List.map intG (tw.take kk)) 3 1) rfl (.head _) rfl ⟨(by show (((tw.map intG).drop 0).take kk)++[]=_;rw[List.append_nil,hW]),rfl,rfl⟩ (ghNo ?_)))))⟩
  exact hRd _ _ _ (endRO (o:=o) (gs:=pre++[Rm.mk ⟨(k1:Int),((j:Int)+1),[a0,a1,a2,a3,a4,a5,a6,a7],(tw.take kk),tn⟩ tb v9]++[(Rm.mk ⟨(k1:Int),i.a,p8 (tw.drop kk),[],-1⟩ v2 (.slice none 0 0))]) [.old 0,.old 1,.old 2,.old 3,.old 4,.old 5,.old 16,.old 7] rfl rfl rfl rfl rfl rfl rfl rfl (by push_cast;omega) rfl rfl rfl (by simp[Rm.r]) (zperm2 pre (Rm.mk ⟨(k1:Int),((j:Int)+1),[a0,a1,a2,a3,a4,a5,a6,a7],(tw.take kk),tn⟩ tb v9) (Rm.mk ⟨(k1:Int),i.a,p8 (tw.drop kk),[],-1⟩ v2 (.slice none 0 0)) rfl rfl) (got (hd.trans ((doS_11 g11 hqb hkk).trans ((if_neg (by rw[List.length_map];exact h21)).trans (by rw[List.map_append,List.map_append];rfl))))) (Nat.lt_succ_self n2))
 ·
  have ha12:i.a<=4:=by rw[g12] at i4;exact i4
  have hb12:i.b<=7:=by rw[g12] at i6;exact i6
  have hc12:i.c<=4:=by rw[g12] at i8;exact i8
  have hqc:i.c=(qn:Int):=by
   have:needS i=i.c:=by unfold needS;rw[if_neg (by omega),if_neg (by omega),if_neg (by omega),if_pos g12]
   omega
  obtain ⟨a,ha⟩:∃ a:Nat,i.a=(a:Int):=⟨i.a.toNat,by omega⟩
  obtain ⟨b,hb⟩:∃ b:Nat,i.b=(b:Int):=⟨i.b.toNat,by omega⟩
  have e0:=doS_12 (m:=m) (p:=m[k1]) (o:=o) (pre:=pre.map Rm.f) (t:=⟨(k1:Int),(j:Int)+1,[a0,a1,a2,a3,a4,a5,a6,a7],tw,tn⟩) g12 hqc hkk
  refine ⟨none,rfl,?_⟩
  refine ⟨fun _=>?_,fun x=>absurd g12 x⟩
  refine ⟨none,rfl,?_⟩
  refine ⟨fun q1=>?_,fun q1=>?_⟩
  ·exact .inl (.inl ⟨rfl,retRO rfl rfl rfl rfl rfl rfl (stp (hd.trans (e0.trans (if_pos (by unfold gateBad;left;omega))))) e⟩)
  have hal:a < m.length:=by omega
  have hma:m.getD i.a.toNat noPart=m[a]:=by rw[ha];exact getD_of hal _
  have lea:(m[a].entries.map Entry.g).length=m[a].entries.length:=List.length_map _
  refine ⟨a,_,dI ha,gm hal,?_⟩
  refine ⟨fun q2=>?_,fun q2=>?_⟩
  ·exact .inl (.inl ⟨rfl,retRO rfl rfl rfl rfl rfl rfl (stp (hd.trans (e0.trans (if_pos (by unfold gateBad;rw[hma];right;left;omega))))) e⟩)
  have hbl:b < m[a].entries.length:=by omega
  have hmb:m[a].entries.getD i.b.toNat noEntry=m[a].entries[b]:=by rw[hb];exact getD_of hbl _
  refine ⟨a,_,dI ha,gm hal,?_⟩
  refine ⟨b,_,dI hb,gm hbl,?_⟩
  refine ⟨fun q3=>?_,fun q3=>?_⟩
  ·exact .inl (.inl ⟨rfl,retRO rfl rfl rfl rfl rfl rfl (stp (hd.trans (e0.trans (if_pos (by unfold gateBad;rw[hma,hmb];right;right;omega))))) e⟩)
  rw[if_neg (by unfold gateBad;rw[hma,hmb];omega),hma,hmb,List.length_map] at e0
  refine .inl ?_
  refine ⟨some 9999,[15],rfl,?_⟩
  refine ⟨a,_,dI ha,gm hal,?_⟩
  refine ⟨b,_,dI hb,gm hbl,.inl ?_⟩
  have lc:(o.calls.map Nt.g).length=o.calls.length:=List.length_map _
  refine ⟨fun g100=>?_,fun g100=>?_⟩
  ·rw[if_pos (by omega)] at e0
   refine .inl ?_
   refine ⟨some 23011,[18],rfl,?_⟩
   refine ⟨⟨by simp[maxLen];omega,by simp;omega⟩,?_⟩
   have hdp:((((pre++[Rm.mk ⟨(k1:Int),(j:Int),[a0,a1,a2,a3,a4,a5,a6,a7],tw,tn⟩ tb tv]).map Rm.r).length:Nat):Int)=((pre.length+1:Nat):Int):=by rw[lp]
   refine ⟨[Nt.g ⟨(k1:Int),i.a,i.b,tw.drop kk,(pre.length+1:Nat),false,0⟩],rfl,rfl,⟨rfl,rfl,rfl,congrArg (GV.sl 1) hL,congrArg GV.int hdp,rfl,rfl,trivial⟩,⟨_,rfl⟩,?_⟩
   refine ⟨⟨by simp[maxLen];omega,by simp;omega⟩,.inl ?_⟩
   refine ⟨fun h20=>?_,fun h20=>?_⟩
   ·have h21:pre.length+1=20:=by have h22:(((pre++[Rm.mk ⟨(k1:Int),(j:Int),[a0,a1,a2,a3,a4,a5,a6,a7],tw,tn⟩ tb tv]).map Rm.r).length:Int) >= 20:=h20;rw[lp] at h22;omega
    exact .inl (.inl ⟨rfl,retRO (o:={ o with calls:=o.calls++[⟨(k1:Int),i.a,i.b,tw.drop kk,(pre.length+1:Nat),false,0⟩] }) rfl rfl rfl rfl rfl (by rw[List.map_append];rfl) (stp (hd.trans (e0.trans (if_pos h21)))) e⟩)
   have h21:¬pre.length+1=20:=by have h22:¬(((pre++[Rm.mk ⟨(k1:Int),(j:Int),[a0,a1,a2,a3,a4,a5,a6,a7],tw,tn⟩ tb tv]).map Rm.r).length:Int) >= 20:=h20;rw[lp] at h22;omega
   refine .inl ?_
   refine ⟨_,p8_from hL _ _ _ _,?_⟩
   refine ghNilC 14 10 rfl rfl (ghNameB 7 14 rfl rfl (fun v2=>ghHide 7 14 v2 (.blk (Rm.g (Rm.mk ⟨i.a,m[a].entries[b].at_,p8 (tw.drop kk),[],((o.calls.map Nt.g).length:Nat)⟩ v2 (.slice none 0 0))) 114) rfl (.head _) rfl ⟨rfl,rfl⟩ (ghNil 7 3 1 (by decide) rfl (ghNo ?_))))
   refine ⟨[[.raw v2]],rfl,rfl,⟨rfl,trivial⟩,⟨by simp[maxLen];omega,by simp;omega⟩,.inl ?_⟩
   refine ⟨_,I64.wrap (by show I64 ((((((tw.map intG).drop 0).take kk).length:Nat):Int)+0);rw[hWl];unfold I64;omega),⟨fun x=>absurd x (by show ¬(((((tw.map intG).drop 0).take kk).length:Nat):Int)+0 > 40;rw[hWl];omega),fun _=>?_⟩⟩
   refine ⟨⟨by simp[maxLen];omega,by simp;omega⟩,.inl (.inr (ghNameC 8 10 7 20 rfl rfl rfl rfl (fun v9=>ghHide 7 8 tb (.blk (Rm.mk ⟨(k1:Int),((j:Int)+1),[a0,a1,a2,a3,a4,a5,a6,a7],(tw.take kk),tn⟩ tb v9).g 114) rfl (.tail _ (.tail _ (.tail _ (.head _)))) rfl ⟨rfl,rfl⟩ (ghHide 7 20 v9 (.row (List.map intG (tw.take kk)) 3 1) rfl (.head _) rfl ⟨(by show (((tw.map intG).drop 0).take kk)++[]=_;rw[List.append_nil,hW]),rfl,rfl⟩ (ghNo ?_)))))⟩
   exact hRd _ _ _ (endRO (o:={ o with calls:=o.calls++[⟨(k1:Int),i.a,i.b,tw.drop kk,(pre.length+1:Nat),false,0⟩] }) (gs:=pre++[Rm.mk ⟨(k1:Int),((j:Int)+1),[a0,a1,a2,a3,a4,a5,a6,a7],(tw.take kk),tn⟩ tb v9]++[(Rm.mk ⟨i.a,m[a].entries[b].at_,p8 (tw.drop kk),[],((o.calls.map Nt.g).length:Nat)⟩ v2 (.slice none 0 0))]) [.old 0,.old 1,.old 2,.old 3,.old 4,.old 17,.old 19,.old 7] rfl rfl rfl rfl rfl rfl rfl rfl (by push_cast;omega) rfl rfl (by rw[List.map_append];rfl) (by simp[Rm.r]) (zperm2 pre (Rm.mk ⟨(k1:Int),((j:Int)+1),[a0,a1,a2,a3,a4,a5,a6,a7],(tw.take kk),tn⟩ tb v9) (Rm.mk ⟨i.a,m[a].entries[b].at_,p8 (tw.drop kk),[],((o.calls.map Nt.g).length:Nat)⟩ v2 (.slice none 0 0)) rfl rfl) (got (hd.trans (e0.trans ((if_neg h21).trans (by rw[lc,List.map_append,List.map_append];rfl))))) (Nat.lt_succ_self n2))
  ·rw[if_neg (by omega)] at e0
   refine ⟨fun h20=>?_,fun h20=>?_⟩
   ·have h21:pre.length+1=20:=by have h22:(((pre++[Rm.mk ⟨(k1:Int),(j:Int),[a0,a1,a2,a3,a4,a5,a6,a7],tw,tn⟩ tb tv]).map Rm.r).length:Int) >= 20:=h20;rw[lp] at h22;omega
    exact .inl (.inl ⟨rfl,retRO rfl rfl rfl rfl rfl rfl (stp (hd.trans (e0.trans (if_pos h21)))) e⟩)
   have h21:¬pre.length+1=20:=by have h22:¬(((pre++[Rm.mk ⟨(k1:Int),(j:Int),[a0,a1,a2,a3,a4,a5,a6,a7],tw,tn⟩ tb tv]).map Rm.r).length:Int) >= 20:=h20;rw[lp] at h22;omega
   refine .inl ?_
   refine ⟨_,p8_from hL _ _ _ _,?_⟩
   refine ghNilC 14 10 rfl rfl (ghNameB 7 14 rfl rfl (fun v2=>ghHide 7 14 v2 (.blk (Rm.g (Rm.mk ⟨i.a,m[a].entries[b].at_,p8 (tw.drop kk),[],-1⟩ v2 (.slice none 0 0))) 114) rfl (.head _) rfl ⟨rfl,rfl⟩ (ghNil 7 3 1 (by decide) rfl (ghNo ?_))))
   refine ⟨[[.raw v2]],rfl,rfl,⟨rfl,trivial⟩,⟨by simp[maxLen];omega,by simp;omega⟩,.inl ?_⟩
   refine ⟨_,I64.wrap (by show I64 ((((((tw.map intG).drop 0).take kk).length:Nat):Int)+0);rw[hWl];unfold I64;omega),⟨fun x=>absurd x (by show ¬(((((tw.map intG).drop 0).take kk).length:Nat):Int)+0 > 40;rw[hWl];omega),fun _=>?_⟩⟩
   refine ⟨⟨by simp[maxLen];omega,by simp;omega⟩,.inl (.inr (ghNameC 8 10 7 17 rfl rfl rfl rfl (fun v9=>ghHide 7 8 tb (.blk (Rm.mk ⟨(k1:Int),((j:Int)+1),[a0,a1,a2,a3,a4,a5,a6,a7],(tw.take kk),tn⟩ tb v9).g 114) rfl (.tail _ (.tail _ (.tail _ (.head _)))) rfl ⟨rfl,rfl⟩ (ghHide 7 17 v9 (.row (List.map intG (tw.take kk)) 3 1) rfl (.head _) rfl ⟨(by show (((tw.map intG).drop 0).take kk)++[]=_;rw[List.append_nil,hW]),rfl,rfl⟩ (ghNo ?_)))))⟩
   exact hRd _ _ _ (endRO (o:=o) (gs:=pre++[Rm.mk ⟨(k1:Int),((j:Int)+1),[a0,a1,a2,a3,a4,a5,a6,a7],(tw.take kk),tn⟩ tb v9]++[(Rm.mk ⟨i.a,m[a].entries[b].at_,p8 (tw.drop kk),[],-1⟩ v2 (.slice none 0 0))]) [.old 0,.old 1,.old 2,.old 3,.old 4,.old 5,.old 16,.old 7] rfl rfl rfl rfl rfl rfl rfl rfl (by push_cast;omega) rfl rfl rfl (by simp[Rm.r]) (zperm2 pre (Rm.mk ⟨(k1:Int),((j:Int)+1),[a0,a1,a2,a3,a4,a5,a6,a7],(tw.take kk),tn⟩ tb v9) (Rm.mk ⟨i.a,m[a].entries[b].at_,p8 (tw.drop kk),[],-1⟩ v2 (.slice none 0 0)) rfl rfl) (got (hd.trans (e0.trans ((if_neg h21).trans (by rw[List.map_append,List.map_append];rfl))))) (Nat.lt_succ_self n2))
 refine ⟨fun g13=>?_,fun g13=>?_⟩
 ·
  have hq1:qn=1:=by
   have:needS i=1:=by unfold needS;rw[if_pos (by omega)]
   omega
  subst hq1
  obtain ⟨x,hx,hws'⟩:=off_one hkk
  have hL0:((((tw.map intG).drop kk).take ((tw.map intG).length - kk)))[0]?=some [.int x]:=by rw[hL,hx];rfl
  refine ⟨fun hn=>?_,fun hn=>?_⟩
  ·obtain ⟨nk,hnk⟩:∃ nk:Nat,tn=(nk:Int):=⟨tn.toNat,by have:tn >= 0:=hn;omega⟩
   have hnl:nk < o.calls.length:=by omega
   have hnlm:nk < (o.calls.map Nt.g).length:=by rw[List.length_map];exact hnl
   have hno:noteS o tn x=noteS o (nk:Int) x:=by rw[hnk]
   refine ⟨some 9999,[8],rfl,nk,dI hnk,hnlm,?_⟩
   refine ⟨_,[.bool true],gm hnl,⟨rfl,trivial⟩,Nat.le_add_left 6 1,(fun h=>by cases h),.inl ?_⟩
   refine ⟨some 9999,[11],rfl,0,rfl,(by show 0 < ((((tw.map intG).drop kk).take ((tw.map intG).length - kk))).length;rw[hLl];omega),[.int x],hL0,nk,dI hnk,by rw[List.length_set];exact hnlm,?_⟩
   refine ⟨_,[.int x],List.getElem?_set_self hnlm,⟨rfl,trivial⟩,Nat.le_refl 7,(fun h=>by cases h),.inl ?_⟩
   have hrt:((pre++[Rm.mk ⟨(k1:Int),(j:Int),[a0,a1,a2,a3,a4,a5,a6,a7],tw,tn⟩ tb tv]).map Rm.r).take pre.length=pre.map Rm.r:=by rw[List.map_append,List.take_left' (by simp)]
   have hrl:(((pre++[Rm.mk ⟨(k1:Int),(j:Int),[a0,a1,a2,a3,a4,a5,a6,a7],tw,tn⟩ tb tv]).map Rm.r).take pre.length).length=pre.length:=by rw[hrt,List.length_map]
   refine ⟨(by show I64 (((((pre++[Rm.mk ⟨(k1:Int),(j:Int),[a0,a1,a2,a3,a4,a5,a6,a7],tw,tn⟩ tb tv]).map Rm.r).length:Nat):Int) - 1);rw[lp];unfold I64;omega),?_⟩
   refine ⟨pre.length,dI (by show ((((pre++[Rm.mk ⟨(k1:Int),(j:Int),[a0,a1,a2,a3,a4,a5,a6,a7],tw,tn⟩ tb tv]).map Rm.r).length:Nat):Int) - 1=_;rw[lp];omega),(by show _<=((pre++[Rm.mk ⟨(k1:Int),(j:Int),[a0,a1,a2,a3,a4,a5,a6,a7],tw,tn⟩ tb tv]).map Rm.r).length;rw[lp];omega),.inr (ghCut rfl (by rw[lp];omega) (ghNo ?_))⟩
   refine ⟨fun hz=>?_,fun hz=>?_⟩
   ·have hz':pre.length=0:=by have h9:(((((pre++[Rm.mk ⟨(k1:Int),(j:Int),[a0,a1,a2,a3,a4,a5,a6,a7],tw,tn⟩ tb tv]).map Rm.r).take pre.length).length:Nat):Int)=0:=hz;rw[hrl] at h9;omega
    have hp0:pre=[]:=List.length_eq_zero_iff.1 hz'
    have e0:doS m m[k1] i o (pre.map Rm.f) ⟨(k1:Int),(j:Int)+1,[a0,a1,a2,a3,a4,a5,a6,a7],tw,tn⟩=.stop 1 x (noteS o (nk:Int) x):=by rw[doS_13 g13 hkk hx,hp0];exact congrArg (R.stop 1 x) hno
    exact .inl ⟨0,rfl,(by show 0 < ((((tw.map intG).drop kk).take ((tw.map intG).length - kk))).length;rw[hLl];omega),[.int x],hL0,.inl (.inl ⟨rfl,retRO (o:=noteS o (nk:Int) x) rfl rfl rfl (by rw[noteS_told]) (by rw[noteS_data]) (note_g hnl x) (stp (hd.trans e0)) e⟩)⟩
   have hz':¬pre.length=0:=by have h9:¬(((((pre++[Rm.mk ⟨(k1:Int),(j:Int),[a0,a1,a2,a3,a4,a5,a6,a7],tw,tn⟩ tb tv]).map Rm.r).take pre.length).length:Nat):Int)=0:=hz;rw[hrl] at h9;omega
   obtain ⟨p',⟨⟨fp,fa,fl,fw,fn⟩,fb,fv⟩,hpre⟩:∃ p' f,pre=p'++[f]:=by
    rcases List.eq_nil_or_concat pre with h9 | ⟨p',t,h9⟩
    ·exact absurd (by rw[h9];rfl) hz'
    ·exact ⟨p',t,by rw[h9,List.concat_eq_append]⟩
   obtain ⟨_,_,_,hfl,hfw,_⟩:=ok.frs ⟨fp,fa,fl,fw,fn⟩ (by rw[hpre];simp)
   dsimp only at hfl hfw
   obtain ⟨f0,f1,f2,f3,f4,f5,f6,f7,rfl⟩:=loc8 hfl
   have hpl:pre.length=p'.length+1:=by rw[hpre];simp
   have hget:(((pre++[Rm.mk ⟨(k1:Int),(j:Int),[a0,a1,a2,a3,a4,a5,a6,a7],tw,tn⟩ tb tv]).map Rm.r).take pre.length)[p'.length]?=some (Rm.r (Rm.mk ⟨fp,fa,[f0,f1,f2,f3,f4,f5,f6,f7],fw,fn⟩ fb fv)):=by rw[hrt,hpre];exact snoc_at Rm.r p' _
   have e0:doS m m[k1] i o (pre.map Rm.f) ⟨(k1:Int),(j:Int)+1,[a0,a1,a2,a3,a4,a5,a6,a7],tw,tn⟩=pushS (noteS o (nk:Int) x) (p'.map Rm.f) ⟨fp,fa,[f0,f1,f2,f3,f4,f5,f6,f7],fw,fn⟩ x:=by
    rw[doS_13 g13 hkk hx,hpre,List.map_append]
    simp only[List.map_cons,List.map_nil,List.getLast?_append,List.getLast?_singleton,Option.some_or,List.dropLast_concat]
    exact congrArg (fun z=>pushS z (p'.map Rm.f) ⟨fp,fa,[f0,f1,f2,f3,f4,f5,f6,f7],fw,fn⟩ x) hno
   have lfw:(fw.map intG).length=fw.length:=List.length_map _
   refine ⟨(by show I64 ((((((pre++[Rm.mk ⟨(k1:Int),(j:Int),[a0,a1,a2,a3,a4,a5,a6,a7],tw,tn⟩ tb tv]).map Rm.r).take pre.length).length:Nat):Int) - 1);rw[hrl];unfold I64;omega),p'.length,dI (by show (((((pre++[Rm.mk ⟨(k1:Int),(j:Int),[a0,a1,a2,a3,a4,a5,a6,a7],tw,tn⟩ tb tv]).map Rm.r).take pre.length).length:Nat):Int) - 1=_;rw[hrl];omega),(by show _ < (((pre++[Rm.mk ⟨(k1:Int),(j:Int),[a0,a1,a2,a3,a4,a5,a6,a7],tw,tn⟩ tb tv]).map Rm.r).take pre.length).length;rw[hrl];omega),?_⟩
   refine ⟨_,hget,.inr (ghLend 7 (zr p') [(fv,.row (fw.map intG) 3 1)] (.blk (Rm.mk ⟨fp,fa,[f0,f1,f2,f3,f4,f5,f6,f7],fw,fn⟩ fb fv).g 114) rfl (by rw[hpre,List.append_nil];exact zs_snoc _ _ p' (Rm.mk ⟨fp,fa,[f0,f1,f2,f3,f4,f5,f6,f7],fw,fn⟩ fb fv)) (ghNo ?_))⟩
   refine ⟨0,rfl,(by show 0 < ((((tw.map intG).drop kk).take ((tw.map intG).length - kk))).length;rw[hLl];omega),[.int x],hL0,[[.int x]],rfl,rfl,⟨rfl,trivial⟩,?_⟩
   refine .inr (ghLend 7 (zr p') [] (.row (fw.map intG) 3 1) rfl rfl (ghNo ?_))
   refine ⟨_,I64.wrap (by show I64 ((((fw.map intG).length:Nat):Int)+1);rw[lfw];unfold I64;omega),⟨fun x40=>?_,fun x40=>?_⟩⟩
   ·have x41:fw.length=40:=by have x42:(((fw.map intG).length:Nat):Int)+1 > 40:=x40;rw[lfw] at x42;omega
    exact .inl (.inl ⟨rfl,retRO (o:=noteS o (nk:Int) x) rfl rfl rfl (by rw[noteS_told]) (by rw[noteS_data]) (note_g hnl x) (stp (hd.trans (e0.trans (if_pos x41)))) e⟩)
   have x41:¬fw.length=40:=by have x42:¬(((fw.map intG).length:Nat):Int)+1 > 40:=x40;rw[lfw] at x42;omega
   refine .inr (ghTag 7 17 rfl (.head _) rfl (ghNo ?_))
   refine ⟨⟨by simp[maxLen];omega,by simp;omega⟩,.inl (.inr (ghNameC 15 10 7 18 rfl rfl rfl rfl (fun v9=>ghHide 7 15 fb (.blk (Rm.mk ⟨fp,fa,[f0,f1,f2,f3,f4,f5,f6,f7],(fw++[x]),fn⟩ fb v9).g 114) rfl (.tail _ (.tail _ (.head _))) rfl ⟨rfl,rfl⟩ (ghHide 7 18 v9 (.row (List.map intG (fw++[x])) 3 1) rfl (.head _) rfl ⟨(by show fw.map intG++[[.int x]]=_;rw[List.map_append];rfl),rfl,rfl⟩ (ghNo ?_)))))⟩
   exact hRd _ _ _ (endRO (o:=noteS o (nk:Int) x) (gs:=p'++[Rm.mk ⟨fp,fa,[f0,f1,f2,f3,f4,f5,f6,f7],(fw++[x]),fn⟩ fb v9]) [.old 0,.old 1,.old 2,.old 3,.old 4,.old 5,.old 14,.old 7] rfl rfl rfl rfl rfl rfl rfl rfl (by push_cast;omega) (by rw[noteS_told]) (by rw[noteS_data]) (note_g hnl x) (by rw[hrt,hpre];simp[Rm.r]) (zperm1 p' (Rm.mk ⟨fp,fa,[f0,f1,f2,f3,f4,f5,f6,f7],(fw++[x]),fn⟩ fb v9)) (got (hd.trans (e0.trans ((if_neg x41).trans (by rw[List.map_append];rfl))))) (Nat.lt_succ_self n2))
  ·have hno:noteS o tn x=o:=noteS_no hn x
   have hrt:((pre++[Rm.mk ⟨(k1:Int),(j:Int),[a0,a1,a2,a3,a4,a5,a6,a7],tw,tn⟩ tb tv]).map Rm.r).take pre.length=pre.map Rm.r:=by rw[List.map_append,List.take_left' (by simp)]
   have hrl:(((pre++[Rm.mk ⟨(k1:Int),(j:Int),[a0,a1,a2,a3,a4,a5,a6,a7],tw,tn⟩ tb tv]).map Rm.r).take pre.length).length=pre.length:=by rw[hrt,List.length_map]
   refine ⟨(by show I64 (((((pre++[Rm.mk ⟨(k1:Int),(j:Int),[a0,a1,a2,a3,a4,a5,a6,a7],tw,tn⟩ tb tv]).map Rm.r).length:Nat):Int) - 1);rw[lp];unfold I64;omega),?_⟩
   refine ⟨pre.length,dI (by show ((((pre++[Rm.mk ⟨(k1:Int),(j:Int),[a0,a1,a2,a3,a4,a5,a6,a7],tw,tn⟩ tb tv]).map Rm.r).length:Nat):Int) - 1=_;rw[lp];omega),(by show _<=((pre++[Rm.mk ⟨(k1:Int),(j:Int),[a0,a1,a2,a3,a4,a5,a6,a7],tw,tn⟩ tb tv]).map Rm.r).length;rw[lp];omega),.inr (ghCut rfl (by rw[lp];omega) (ghNo ?_))⟩
   refine ⟨fun hz=>?_,fun hz=>?_⟩
   ·have hz':pre.length=0:=by have h9:(((((pre++[Rm.mk ⟨(k1:Int),(j:Int),[a0,a1,a2,a3,a4,a5,a6,a7],tw,tn⟩ tb tv]).map Rm.r).take pre.length).length:Nat):Int)=0:=hz;rw[hrl] at h9;omega
    have hp0:pre=[]:=List.length_eq_zero_iff.1 hz'
    have e0:doS m m[k1] i o (pre.map Rm.f) ⟨(k1:Int),(j:Int)+1,[a0,a1,a2,a3,a4,a5,a6,a7],tw,tn⟩=.stop 1 x (o):=by rw[doS_13 g13 hkk hx,hp0];exact congrArg (R.stop 1 x) hno
    exact .inl ⟨0,rfl,(by show 0 < ((((tw.map intG).drop kk).take ((tw.map intG).length - kk))).length;rw[hLl];omega),[.int x],hL0,.inl (.inl ⟨rfl,retRO (o:=o) rfl rfl rfl rfl rfl rfl (stp (hd.trans e0)) e⟩)⟩
   have hz':¬pre.length=0:=by have h9:¬(((((pre++[Rm.mk ⟨(k1:Int),(j:Int),[a0,a1,a2,a3,a4,a5,a6,a7],tw,tn⟩ tb tv]).map Rm.r).take pre.length).length:Nat):Int)=0:=hz;rw[hrl] at h9;omega
   obtain ⟨p',⟨⟨fp,fa,fl,fw,fn⟩,fb,fv⟩,hpre⟩:∃ p' f,pre=p'++[f]:=by
    rcases List.eq_nil_or_concat pre with h9 | ⟨p',t,h9⟩
    ·exact absurd (by rw[h9];rfl) hz'
    ·exact ⟨p',t,by rw[h9,List.concat_eq_append]⟩
   obtain ⟨_,_,_,hfl,hfw,_⟩:=ok.frs ⟨fp,fa,fl,fw,fn⟩ (by rw[hpre];simp)
   dsimp only at hfl hfw
   obtain ⟨f0,f1,f2,f3,f4,f5,f6,f7,rfl⟩:=loc8 hfl
   have hpl:pre.length=p'.length+1:=by rw[hpre];simp
   have hget:(((pre++[Rm.mk ⟨(k1:Int),(j:Int),[a0,a1,a2,a3,a4,a5,a6,a7],tw,tn⟩ tb tv]).map Rm.r).take pre.length)[p'.length]?=some (Rm.r (Rm.mk ⟨fp,fa,[f0,f1,f2,f3,f4,f5,f6,f7],fw,fn⟩ fb fv)):=by rw[hrt,hpre];exact snoc_at Rm.r p' _
   have e0:doS m m[k1] i o (pre.map Rm.f) ⟨(k1:Int),(j:Int)+1,[a0,a1,a2,a3,a4,a5,a6,a7],tw,tn⟩=pushS (o) (p'.map Rm.f) ⟨fp,fa,[f0,f1,f2,f3,f4,f5,f6,f7],fw,fn⟩ x:=by
    rw[doS_13 g13 hkk hx,hpre,List.map_append]
    simp only[List.map_cons,List.map_nil,List.getLast?_append,List.getLast?_singleton,Option.some_or,List.dropLast_concat]
    exact congrArg (fun z=>pushS z (p'.map Rm.f) ⟨fp,fa,[f0,f1,f2,f3,f4,f5,f6,f7],fw,fn⟩ x) hno
   have lfw:(fw.map intG).length=fw.length:=List.length_map _
   refine ⟨(by show I64 ((((((pre++[Rm.mk ⟨(k1:Int),(j:Int),[a0,a1,a2,a3,a4,a5,a6,a7],tw,tn⟩ tb tv]).map Rm.r).take pre.length).length:Nat):Int) - 1);rw[hrl];unfold I64;omega),p'.length,dI (by show (((((pre++[Rm.mk ⟨(k1:Int),(j:Int),[a0,a1,a2,a3,a4,a5,a6,a7],tw,tn⟩ tb tv]).map Rm.r).take pre.length).length:Nat):Int) - 1=_;rw[hrl];omega),(by show _ < (((pre++[Rm.mk ⟨(k1:Int),(j:Int),[a0,a1,a2,a3,a4,a5,a6,a7],tw,tn⟩ tb tv]).map Rm.r).take pre.length).length;rw[hrl];omega),?_⟩
   refine ⟨_,hget,.inr (ghLend 7 (zr p') [(fv,.row (fw.map intG) 3 1)] (.blk (Rm.mk ⟨fp,fa,[f0,f1,f2,f3,f4,f5,f6,f7],fw,fn⟩ fb fv).g 114) rfl (by rw[hpre,List.append_nil];exact zs_snoc _ _ p' (Rm.mk ⟨fp,fa,[f0,f1,f2,f3,f4,f5,f6,f7],fw,fn⟩ fb fv)) (ghNo ?_))⟩
   refine ⟨0,rfl,(by show 0 < ((((tw.map intG).drop kk).take ((tw.map intG).length - kk))).length;rw[hLl];omega),[.int x],hL0,[[.int x]],rfl,rfl,⟨rfl,trivial⟩,?_⟩
   refine .inr (ghLend 7 (zr p') [] (.row (fw.map intG) 3 1) rfl rfl (ghNo ?_))
   refine ⟨_,I64.wrap (by show I64 ((((fw.map intG).length:Nat):Int)+1);rw[lfw];unfold I64;omega),⟨fun x40=>?_,fun x40=>?_⟩⟩
   ·have x41:fw.length=40:=by have x42:(((fw.map intG).length:Nat):Int)+1 > 40:=x40;rw[lfw] at x42;omega
    exact .inl (.inl ⟨rfl,retRO (o:=o) rfl rfl rfl rfl rfl rfl (stp (hd.trans (e0.trans (if_pos x41)))) e⟩)
   have x41:¬fw.length=40:=by have x42:¬(((fw.map intG).length:Nat):Int)+1 > 40:=x40;rw[lfw] at x42;omega
   refine .inr (ghTag 7 17 rfl (.head _) rfl (ghNo ?_))
   refine ⟨⟨by simp[maxLen];omega,by simp;omega⟩,.inl (.inr (ghNameC 15 10 7 18 rfl rfl rfl rfl (fun v9=>ghHide 7 15 fb (.blk (Rm.mk ⟨fp,fa,[f0,f1,f2,f3,f4,f5,f6,f7],(fw++[x]),fn⟩ fb v9).g 114) rfl (.tail _ (.tail _ (.head _))) rfl ⟨rfl,rfl⟩ (ghHide 7 18 v9 (.row (List.map intG (fw++[x])) 3 1) rfl (.head _) rfl ⟨(by show fw.map intG++[[.int x]]=_;rw[List.map_append];rfl),rfl,rfl⟩ (ghNo ?_)))))⟩
   exact hRd _ _ _ (endRO (o:=o) (gs:=p'++[Rm.mk ⟨fp,fa,[f0,f1,f2,f3,f4,f5,f6,f7],(fw++[x]),fn⟩ fb v9]) [.old 0,.old 1,.old 2,.old 3,.old 4,.old 5,.old 14,.old 7] rfl rfl rfl rfl rfl rfl rfl rfl (by push_cast;omega) rfl rfl rfl (by rw[hrt,hpre];simp[Rm.r]) (zperm1 p' (Rm.mk ⟨fp,fa,[f0,f1,f2,f3,f4,f5,f6,f7],(fw++[x]),fn⟩ fb v9)) (got (hd.trans (e0.trans ((if_neg x41).trans (by rw[List.map_append];rfl))))) (Nat.lt_succ_self n2))
 refine ⟨fun g14=>?_,fun g14=>?_⟩
 ·
  have hq1:qn=1:=by
   have:needS i=1:=by unfold needS;rw[if_pos (by omega)]
   omega
  subst hq1
  obtain ⟨x,hx,hws'⟩:=off_one hkk
  have hL0:((((tw.map intG).drop kk).take ((tw.map intG).length - kk)))[0]?=some [.int x]:=by rw[hL,hx];rfl
  have lt:(o.told.map intG).length=o.told.length:=List.length_map _
  refine ⟨fun h5=>?_,fun h5=>?_⟩
  ·exact .inl (.inl ⟨rfl,retRO rfl rfl rfl rfl rfl rfl (stp (hd.trans ((doS_14 g14 hkk hx).trans (if_pos (by omega))))) e⟩)
  refine ⟨some 9998,[8],rfl,0,rfl,(by show 0 < ((((tw.map intG).drop kk).take ((tw.map intG).length - kk))).length;rw[hLl];omega),[.int x],hL0,?_⟩
  refine ⟨[[.int x]],rfl,rfl,⟨rfl,trivial⟩,⟨_,rfl⟩,?_⟩
  refine ⟨⟨by simp[maxLen];omega,by simp;omega⟩,.inl ?_⟩
  refine ⟨_,I64.wrap (by show I64 ((((((tw.map intG).drop 0).take kk).length:Nat):Int)+0);rw[hWl];unfold I64;omega),⟨fun x=>absurd x (by show ¬(((((tw.map intG).drop 0).take kk).length:Nat):Int)+0 > 40;rw[hWl];omega),fun _=>?_⟩⟩
  refine ⟨⟨by simp[maxLen];omega,by simp;omega⟩,.inl (.inr (ghNameC 8 10 7 16 rfl rfl rfl rfl (fun v9=>ghHide 7 8 tb (.blk (Rm.mk ⟨(k1:Int),((j:Int)+1),[a0,a1,a2,a3,a4,a5,a6,a7],(tw.take kk),tn⟩ tb v9).g 114) rfl (.tail _ (.tail _ (.head _))) rfl ⟨rfl,rfl⟩ (ghHide 7 16 v9 (.row (List.map intG (tw.take kk)) 3 1) rfl (.head _) rfl ⟨(by show (((tw.map intG).drop 0).take kk)++[]=_;rw[List.append_nil,hW]),rfl,rfl⟩ (ghNo ?_)))))⟩
  exact hRd _ _ _ (endRO (o:={ o with told:=o.told++[x] }) (gs:=pre++[Rm.mk ⟨(k1:Int),((j:Int)+1),[a0,a1,a2,a3,a4,a5,a6,a7],(tw.take kk),tn⟩ tb v9]) [.old 0,.old 1,.old 2,.old 15,.old 4,.old 5,.old 6,.old 7] rfl rfl rfl rfl rfl rfl rfl rfl (by push_cast;omega) (by rw[List.map_append];rfl) rfl rfl (by rw[List.map_append,List.map_append];rfl) (zperm1 pre (Rm.mk ⟨(k1:Int),((j:Int)+1),[a0,a1,a2,a3,a4,a5,a6,a7],(tw.take kk),tn⟩ tb v9)) (got (hd.trans ((doS_14 g14 hkk hx).trans ((if_neg (by omega)).trans (by rw[List.map_append];rfl))))) (Nat.lt_succ_self n2))
 refine ⟨fun g15=>?_,fun g15=>?_⟩
 ·exact .inl (.inl ⟨rfl,retRO rfl rfl rfl rfl rfl rfl (stp (hd.trans (doS_15 g15))) e⟩)
 have g2:i.op=2:=by omega
 have hq1:qn=1:=by
  have:needS i=1:=by unfold needS;rw[if_pos (by omega)]
  omega
 subst hq1
 refine ⟨_,I64.wrap (by show I64 ((((((tw.map intG).drop 0).take kk).length:Nat):Int)+0);rw[hWl];unfold I64;omega),⟨fun x=>absurd x (by show ¬(((((tw.map intG).drop 0).take kk).length:Nat):Int)+0 > 40;rw[hWl];omega),fun _=>?_⟩⟩
 refine ⟨⟨by simp[maxLen];omega,by simp;omega⟩,.inl (.inr (ghNameC 8 10 7 14 rfl rfl rfl rfl (fun v9=>ghHide 7 8 tb (.blk (Rm.mk ⟨(k1:Int),((j:Int)+1),[a0,a1,a2,a3,a4,a5,a6,a7],(tw.take kk),tn⟩ tb v9).g 114) rfl (.tail _ (.tail _ (.head _))) rfl ⟨rfl,rfl⟩ (ghHide 7 14 v9 (.row (List.map intG (tw.take kk)) 3 1) rfl (.head _) rfl ⟨(by show (((tw.map intG).drop 0).take kk)++[]=_;rw[List.append_nil,hW]),rfl,rfl⟩ (ghNo ?_)))))⟩
 exact hRd _ _ _ (endRO (o:=o) (gs:=pre++[Rm.mk ⟨(k1:Int),((j:Int)+1),[a0,a1,a2,a3,a4,a5,a6,a7],(tw.take kk),tn⟩ tb v9]) [.old 0,.old 1,.old 2,.old 3,.old 4,.old 5,.old 6,.old 7] rfl rfl rfl rfl rfl rfl rfl rfl (by push_cast;omega) rfl rfl rfl (by rw[List.map_append,List.map_append];rfl) (zperm1 pre (Rm.mk ⟨(k1:Int),((j:Int)+1),[a0,a1,a2,a3,a4,a5,a6,a7],(tw.take kk),tn⟩ tb v9)) (got (hd.trans ((doS_2 g2 hkk).trans (by rw[List.map_append];rfl)))) (Nat.lt_succ_self n2))
end Go.Proofs.Ythcmdjkaepclhaa

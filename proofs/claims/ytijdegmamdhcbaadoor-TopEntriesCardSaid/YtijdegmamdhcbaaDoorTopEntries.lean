/-
  A part's code is entered at its entries alone: the law TopEntries returns true for every list of raw things, raw thing and code of raw things, wherever the tables of the packages code and barbicankeep hold what the program's text lays there.
-/
import Derived.Test.YtijdegmamdhcbaaDoorJTopEntries
import Derived.Test.YtijdegmamdhcbaaDoorCards
import Derived.Test.YtijdegmamdhcbaaDoorTie
import Derived.Test.YtijdegmamdhcbaaDoorDgk
import Derived.Test.YtijdegmamdhcbaaDoorHo
namespace Barb
open Go Go.Dm Go.Eng Go.Proofs.YtijdegmamdhcbaaDoor
/-- How many calls a run notes. -/
theorem iterS_calls {m:Image}:∀ (n:Nat) {o:MO} {fs:List PF},SOk m o fs→(iterS m n o fs).2.2.calls.length≤101
 | 0,o,fs,ok=>by have:=ok.calls;show o.calls.length≤101;omega
 | n+1,o,fs,ok=>by
  by_cases hne:fs=[]
  ·subst hne
   have:=ok.calls
   show o.calls.length≤101
   omega
  obtain ⟨pre,t,rfl⟩:=last_split fs hne
  rw[iterS_snoc]
  have hs:=stepS_all (P:=fun o'=>o'.calls.length≤101) (m:=m) ⟨fun x=>(by have:=ok.calls;show o.calls.length≤101;omega),fun _ _=>(by have:=ok.calls;show o.calls.length≤101;omega),fun k v=>by have:=ok.calls;unfold noteS;split<;>first | (simp only[List.length_modify];omega) | omega⟩ ok (by have:=ok.calls;omega) (fun n _=>by have:=ok.calls;simp only[List.length_append,List.length_singleton];omega)
  have ho:=stepS_ok ok
  cases hx:Barb.stepS m o pre t with
  | go o' fs' =>
   rw[hx] at ho
   exact iterS_calls n ho.1
  | stop c v o' =>
   rw[hx] at hs
   exact hs.1
end Barb
namespace Go.Proofs.YtijdegmamdhcbaaDoor
open Go Go.Dm Go.Eng Go.RowKit Go.ChangeShapes Go.WideShapes Go.ChangeAt Barb

theorem Nt.g_done {n:Nt} {b:Bool} (h:n.done=b):n.g=[.int n.by_,.int n.part,.int n.entry,.sl 1 (n.args.map intG),.int n.deep,.bool b,.int n.value]:=by rw[Nt.g,h]
set_option maxRecDepth 20000 in
set_option maxHeartbeats 4000000 in
theorem TopEntries_walk (l:List Raw) (hI:∀ r∈l,r.I) (hl:l.length*32≤140737488351232) (r:Raw) (hr:r.I) (code:List Raw) (hcI:∀ r∈code,r.I) (_:code.length*32≤140737488351232):CT Tryd.prog gl 3 [.g (.sl 4 (l.map Raw.g)),.agg r.d,.g (.sl 4 (code.map Raw.g))] (Is (.g (.bool true))):=by
 have hB:=built_any l hI hl r hr
 obtain ⟨hgood,hfew,hlen,_,hdw,hdx,hdl,hwl⟩:=builtOk l r
 have hL:=linkI_good hgood hfew
 generalize programP l=p at *
 generalize dataL p (cellsP p r)=d at *
 generalize cellsP p r=cs at *
 refine enter hT hF hM Tryd.func3 rfl 127 rfl (by kernel_rfl) [.tmp 6] rfl [.g (.sl 4 (l.map Raw.g)),.agg r.d,.g (.sl 4 (code.map Raw.g))] rfl _ ?_
 refine callIs (.inl rfl) hB ?_
 refine ⟨fun e0=>⟨rfl,retIs (.inl rfl)⟩,fun e0=>?_⟩
 obtain ⟨m1,m2,m3,m4⟩:=hL e0
 generalize linkI p=m at *
 have hw0:0≤imgWords m:=by rw[m3];omega
 have hH:=hostile_any m m1 m2 (by omega) ⟨hw0,by omega⟩ d hdl code hcI
 obtain ⟨fr,hfr⟩:∃ fr:Nat,imgWords m=(fr:Int):=⟨_,(Int.toNat_of_nonneg hw0).symm⟩
 have hc:=codeP_ok m (by omega) (img_ents m1) fr (by omega) code
 have hHo:HostOk m d (hostC m code) (hostI m code):=hostOk m1 m2 (by omega) ⟨hw0,by omega⟩ (by omega) hdx (by unfold hostC;rw[hfr];exact hc.1) (by unfold hostC;rw[hfr];exact hc.2.1) (by unfold hostC;rw[hfr];have:=hc.2.2;omega)
 obtain ⟨r1,v1,ok⟩:=hostRun hHo 20000 (by omega)
 have R1:=Run_any (hostI m code) hHo.I (d++[1,2,3,4]) (by simp;omega) m.length 0 [] (by simp) ((20000:Nat):Int)
 rw[r1,v1] at R1
 have hend:=iterS_all (notes_keep (hostI m code)) (fun o n h hn x hx=>by
  rcases List.mem_append.1 hx with hx | hx
  ·exact h x hx
  ·rw[List.mem_singleton.1 hx];exact hn) 20000 _ _ ok (by simp[hostF]) (fun n hn=>by simp at hn)
 have hend3:=iterS_calls 20000 ok
 have hIx:=hHo.I
 have hxl:=hHo.len
 generalize iterS (hostI m code) 20000 ⟨[],d++[1,2,3,4],[]⟩ (hostF m)=A at *
 generalize hostI m code=x at *
 have hdd4:(d++[1,2,3,4]).length=d.length+4:=by simp
 generalize d++[1,2,3,4]=dd at *
 refine callIs (.inl rfl) hH ?_
 refine callIs (show likeA [.agg (imgD x),.g (.sl 1 (dd.map intG)),.g (.int m.length),.g (.int 0),.nils,.g (.int ((20000:Nat):Int))] [.agg (imgD x),.g (.sl 1 (dd.map intG)),.g (.int m.length),.g (.int 0),.g (.sl 1 (([]:List Int).map intG)),.g (.int ((20000:Nat):Int))] from .inr ⟨lk rfl,lk rfl,lk rfl,lk rfl,lkNil,lk rfl,trivial⟩) R1 ?_
 obtain ⟨o,ho⟩:∃ o,outOf A=o:=⟨_,rfl⟩
 have hcalls:∀ n∈o.calls,NoteOk x n:=by rw[← ho];exact hend.1
 have hend1:1≤o.end_:=by rw[← ho];exact hend.2
 have hcl:o.calls.length≤101:=by rw[← ho];exact hend3
 rw[ho]
 have lcl:(o.calls.map Nt.g).length=o.calls.length:=List.length_map _
 have lx:(x.map Part.g).length=x.length:=List.length_map _
 refine loopR (ι:=Nat) (fun i=>[(12,.ptr 0 0),(15,.ptr 1 0),(48,.g (.int (i:Int)))]) (fun _=>[.blk (imgD x) 28,.blk o.d 37]) (fun i=>i≤o.calls.length) (fun i=>o.calls.length - i)
  ⟨0,[.old 2,.old 3],⟨rfl,.inr ⟨⟨rfl,.inl rfl⟩,⟨rfl,.inl rfl⟩,trivial⟩,.inr ⟨lk rfl,lk rfl,lk rfl,trivial⟩,rfl⟩,Nat.zero_le _⟩ ?_
 intro Rd hRd i hi
 refine ⟨fun h=>?_,fun h=>?_⟩
 rotate_left
 ·exact ⟨fun _=>⟨rfl,retNB ⟨fun _=>(fun e=>by have e:o.end_=0:=e;omega),fun _=>rfl⟩⟩,fun h=>absurd rfl h⟩
 have hil:i < o.calls.length:=by omega
 have hok:=hcalls _ (List.getElem_mem hil)
 have hg:=(gm hil:(o.calls.map Nt.g)[i]?=some (Nt.g o.calls[i]))
 generalize o.calls[i]=n at hok hg
 obtain ⟨by_,part,entry,args,deep,done,value⟩:=n
 obtain ⟨⟨p0,p1⟩,⟨e0',e1⟩,ha,hd,hv⟩:=hok
 dsimp only at p0 p1 e0' e1 ha hd hv
 obtain ⟨pk,rfl⟩:∃ k:Nat,part=k:=⟨_,(Int.toNat_of_nonneg p0).symm⟩
 obtain ⟨ek,rfl⟩:∃ k:Nat,entry=k:=⟨_,(Int.toNat_of_nonneg e0').symm⟩
 have hpx:pk < x.length:=by omega
 rw[Int.toNat_natCast,show x.getD pk noPart=x[pk] by simp[hpx]] at e1 ha
 have hex:ek < x[pk].entries.length:=by omega
 rw[Int.toNat_natCast,show x[pk].entries.getD ek noEntry=x[pk].entries[ek] by simp[hex]] at ha
 have hget:=(gm hpx:(x.map Part.g)[pk]?=some (Part.g x[pk]))
 generalize x[pk]=q at *
 have hge:=(gm hex:(q.entries.map Entry.g)[ek]?=some (Entry.g q.entries[ek]))
 have le:(q.entries.map Entry.g).length=q.entries.length:=List.length_map _
 have la:(args.map intG).length=args.length:=List.length_map _
 generalize q.entries[ek]=en at *
 cases done with
 | true =>
  refine ⟨i,_,rfl,hg,none,rfl,?_⟩
  refine ⟨fun h=>absurd (show (pk:Int) < 0 from h) (by omega),fun _=>⟨fun h=>absurd (show ((x.map Part.g).length:Int)≤pk from h) (by omega),fun _=>⟨fun h=>absurd (show (ek:Int) < 0 from h) (by omega),fun _=>⟨pk,_,rfl,hget,⟨fun h=>absurd (show ((q.entries.map Entry.g).length:Int)≤ek from h) (by omega),fun _=>⟨pk,_,rfl,hget,ek,_,rfl,hge,fun h=>absurd (show en.params=((args.map intG).length:Nat) by rw[la];exact ha) h,fun _=>⟨fun h=>absurd (show deep < 1 from h) (by omega),fun _=>⟨fun h=>absurd (show 20 < deep from h) (by omega),fun _=>?_⟩⟩⟩⟩⟩⟩⟩⟩
  refine ⟨_,I64.wrap (by unfold I64;omega),?_⟩
  exact hRd _ _ _ ⟨i+1,[.old 0,.old 1],⟨rfl,.inr ⟨⟨rfl,.inl rfl⟩,⟨rfl,.inl rfl⟩,trivial⟩,.inr ⟨lk rfl,lk rfl,lk rfl,trivial⟩,rfl⟩,hil,by omega⟩
 | false =>
  have hv0:value=0:=hv rfl
  refine ⟨i,_,rfl,hg,none,rfl,?_⟩
  refine ⟨fun h=>absurd (show (pk:Int) < 0 from h) (by omega),fun _=>⟨fun h=>absurd (show ((x.map Part.g).length:Int)≤pk from h) (by omega),fun _=>⟨fun h=>absurd (show (ek:Int) < 0 from h) (by omega),fun _=>⟨pk,_,rfl,hget,⟨fun h=>absurd (show ((q.entries.map Entry.g).length:Int)≤ek from h) (by omega),fun _=>⟨pk,_,rfl,hget,ek,_,rfl,hge,fun h=>absurd (show en.params=((args.map intG).length:Nat) by rw[la];exact ha) h,fun _=>⟨fun h=>absurd (show deep < 1 from h) (by omega),fun _=>⟨fun h=>absurd (show 20 < deep from h) (by omega),fun _=>?_⟩⟩⟩⟩⟩⟩⟩⟩
  refine ⟨fun h=>absurd hv0 h,fun _=>?_⟩
  refine ⟨_,I64.wrap (by unfold I64;omega),?_⟩
  exact hRd _ _ _ ⟨i+1,[.old 0,.old 1],⟨rfl,.inr ⟨⟨rfl,.inl rfl⟩,⟨rfl,.inl rfl⟩,trivial⟩,.inr ⟨lk rfl,lk rfl,lk rfl,trivial⟩,rfl⟩,hil,by omega⟩


set_option maxRecDepth 100000 in
theorem TopEntries_contract (H:Type) (enc:TypeId × Value→H) (W:World) (base:Nat) (args:Array Value) (ds gs:List (DataW H)) (before:List MemPlace)
  (hval:∀ (j:Nat) t v,Tryd.f3.params[j]?=some t→args[j]?=some v→Value.okWide Tryd.prog W .any base t v)
  (hwt:(DataW.weightsEach Tryd.prog (Tryd.f3.params.toList++Rows.topEntriesSpec.plain.varTypes Tryd.prog) (ds++gs)).all (·≤reachBytes)=true)
  (hW:DataW.Whole enc Tryd.prog Tryd.f3.params.toList Rows.topEntriesSpec.vars false W args.toList ds gs before) (hL:laidMetH Tryd.prog Rows.topEntriesRow.laid W) :
  Calls Tryd.prog 3 args W fun e W'=>∃ v,e=.returned v∧Rows.topEntriesSpec.post enc Tryd.prog Tryd.f3 false true false false W args v W':=by
 refine law_contractW plainS_ok laidOut rfl ?_ rfl Tryd.underlying4 (pars_ok (by kernel_rfl)) W ?_ base args ds gs before hval hwt hW
 ·intro ds hds
  match ds,hds with
  | [d0,d1,d2],_=>rfl
 ·intro args hargs
  obtain ⟨v0,r0,rfl,h0,hargs⟩:=hargs.inv
  obtain ⟨v1,r1,rfl,h1,hargs⟩:=hargs.inv
  obtain ⟨v2,r2,rfl,h2,hargs⟩:=hargs.inv
  obtain rfl:=hargs.inv0
  obtain ⟨f0,g0,t0,R0⟩:=h0.slice Tryd.underlying22
  obtain ⟨x0,rfl,i0,b0⟩:=dec_Raws t0
  obtain ⟨f1,g1,c1,rfl,t1,R1⟩:=h1.struct Tryd.underlying24
  obtain ⟨x1,rfl,b1⟩:=dec_Raw t1
  obtain ⟨f2,g2,t2,R2⟩:=h2.slice Tryd.underlying22
  obtain ⟨x2,rfl,i2,b2⟩:=dec_Raws t2
  exact law_of_ctG (gl_ok hL) (TopEntries_walk x0 i0 b0 x1 b1 x2 i2 b2) (args_cons (arg_g R0) (args_cons (arg_agg R1) (args_cons (arg_g R2) args_nil)))
theorem TopEntries_met (os:Os):laidMet Tryd.prog Rows.topEntriesRow.laid ((gl_world os).forCall (fun _ _=>0) ⟨#[],#[.slice none 0 0,.agg #[.int .i64 0,.int .i64 0,.int .i64 0,.int .i64 0],.slice none 0 0],[]⟩).memory :=
 laidMet_of_run' 8 (by kernel_rfl) (by kernel_rfl)
theorem TopEntries_reads (os:Os) {H:Type} (enc:TypeId × Value→H):∃ places,DataW.whole enc Tryd.prog ((gl_world os).forCall (fun _ _=>0) ⟨#[],#[.slice none 0 0,.agg #[.int .i64 0,.int .i64 0,.int .i64 0,.int .i64 0],.slice none 0 0],[]⟩).memory Tryd.f3.params.toList Rows.topEntriesSpec.vars false (#[.slice none 0 0,.agg #[.int .i64 0,.int .i64 0,.int .i64 0,.int .i64 0],.slice none 0 0]:Array Value).toList 8=some ([.nil,.agg [.lit (.int .i64 0),.lit (.int .i64 0),.lit (.int .i64 0),.lit (.int .i64 0)],.nil],[],places) :=
 ⟨[],by kernel_rfl⟩
set_option maxRecDepth 100000 in
theorem TopEntries_lifted (os:Os) (started:os.Started) (H:Type) (enc:TypeId × Value→H) (F:Stop.Interp) :
  ReturnsInHanded {} Tryd.checked os 3 .any ((OpenSpec.ofChange Rows.topEntriesSpec).preRow enc Tryd.prog Tryd.f3 Rows.topEntriesRow.domain false Rows.topEntriesRow.laid) (((OpenSpec.ofChange Rows.topEntriesSpec).at F).post enc Tryd.prog Tryd.f3 false true false false):=by
 obtain ⟨places,hx⟩:=TopEntries_reads os enc
 refine returnsInHanded_of_row (C:=Tryd.checked) (s:=OpenSpec.ofChange Rows.topEntriesSpec) own started (by kernel_rfl) Tryd.func3
  (witness_row_at (enc:=enc) (C:=Tryd.checked) false (gl_world os) #[.slice none 0 0,.agg #[.int .i64 0,.int .i64 0,.int .i64 0,.int .i64 0],.slice none 0 0] rfl (by kernel_rfl) (by kernel_rfl) (by kernel_rfl)
   (OpenSpec.preRow_of_cond 8 hx (by kernel_rfl) (fun k hk=>by cases hk) (by kernel_rfl) (TopEntries_met os))) ?_
 intro W base args ds gs before hval hW _ _ hwt hL _ _
 exact TopEntries_contract H enc W base args ds gs before hval hwt hW hL
theorem TopEntries_row:Rows.TopEntriesSaid:=TopEntries_over TopEntries_lifted
/-- THE CARD. -/
theorem TopEntries_said:Rows.TopEntriesCardSaid :=
 Claim7.holds_tied_plain_at .later [] _ _ _ _ TopEntries_row (fun _ h=>by cases h) (by kernel_rfl) (fun _ h=>by cases h) topEntries_row_tie rfl ⟨rfl,rfl⟩ (by kernel_rfl) rfl TopEntries_plain (by kernel_rfl)
#print axioms TopEntries_said
end Go.Proofs.YtijdegmamdhcbaaDoor

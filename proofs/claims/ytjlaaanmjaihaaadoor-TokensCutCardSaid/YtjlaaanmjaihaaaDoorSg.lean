/-
  token.sign: the sign that a text begins with.
-/
import Derived.Test.YtjlaaanmjaihaaaDoorProg
import Derived.KernelRfl
import Derived.RangeFuncNested
import Derived.RangeFuncBound
import Derived.RangeFuncCalls
import Derived.RangeFuncLeaves
import Derived.Shelf.Abstract
import Derived.Shelf.RegionOpen
import Derived.Shelf.Strings.Prefix
import Derived.Shelf.Strings.Search2
import Derived.WalkKit
import Derived.OwnWalkIn
import Derived.TacticsInMore
import Derived.LoopNIn
import Derived.LoopIn
namespace Go.Proofs.YtjlaaanmjaihaaaDoor
open Go Go.Shelf Go.RowKit
attribute [local go_sem] Oper.semAt_some
def laysPrefix_ren : Go.Shelf.Ren := ⟨fun | 99 => 26 | 206 => 35 | n => n, fun | 9 => 9 | 4 => 4 | 3 => 3 | n => n, fun | n => n⟩
theorem laysPrefix : Go.Proofs.Lays.n99 Tryd.prog laysPrefix_ren := by
  repeat' first | kernel_rfl | (intro w; kernel_rfl) | (intro w; rfl) | constructor
def laysIndex_ren : Go.Shelf.Ren := ⟨fun | 219 => 56 | 217 => 64 | 225 => 65 | 224 => 66 | 267 => 67 | 266 => 70 | 314 => 71 | n => n, fun | 9 => 9 | 3 => 3 | 4 => 4 | 5 => 5 | 46 => 75 | 146 => 100 | 51 => 91 | n => n, fun | 1 => 0 | n => n⟩
theorem laysIndex : Go.Proofs.Lays.n219 Tryd.prog laysIndex_ren := by
  repeat' first | kernel_rfl | (intro w; kernel_rfl) | (intro w; rfl) | constructor
def signL:List (List UInt8):=[[60,60],[62,62],[61,61],[123],[125],[40],[41],[91],[93],[44],[59],[46],[61],[43],[45],[42],[38],[124],[94],[60]]
def restS (k:Nat):List UInt8:=((signL.drop k).intersperse [32]).flatten
def wordS (k:Nat):List UInt8:=signL.getD k []
def signOf (s:List UInt8):List UInt8:=(signL.find? (fun t=>Lib.hasPrefix s t)).getD []
theorem index_any (s:ByteArray) (w:World):Calls Tryd.prog 47 #[.string s,.string ⟨#[32]⟩] w fun e w'=>e=.returned (.int .i64 (Lib.indexByte s.data.toList 32))∧w'=w:=by
 go_enter Tryd.func47,Tryd.ntmps47
 go_wp2_with (go_at_call 56;refine (Any.stringslite_Index_one laysIndex _ _ _).mono ?_;rintro e w' ⟨rfl,rfl⟩)
 go_ret
 exact ⟨rfl,rfl⟩
theorem split_raw (s t:ByteArray) (w:World):Calls Tryd.prog 34 #[.string s,.string t,.int .i64 0] w fun e w' =>
  e=.returned (.func (.func 45) #[] #[.pointer (some ⟨w.heap.size+1,0,none⟩),.pointer (some ⟨w.heap.size,0,none⟩),.pointer (some ⟨w.heap.size+2,0,none⟩)]) ∧
  w'=((w.alloc (.cells #[.string s] 9)).alloc (.cells #[.string t] 9)).alloc (.cells #[.int .i64 0] 3):=by
 go_enter Tryd.func34,Tryd.ntmps34
 go_wp2
 go_ret
 exact ⟨rfl,rfl⟩
theorem seq_raw (s t:ByteArray) (w:World):Calls Tryd.prog 25 #[.string s,.string t] w fun e w' =>
  e=.returned (.func (.func 45) #[] #[.pointer (some ⟨w.heap.size+1,0,none⟩),.pointer (some ⟨w.heap.size,0,none⟩),.pointer (some ⟨w.heap.size+2,0,none⟩)]) ∧
  w'=((w.alloc (.cells #[.string s] 9)).alloc (.cells #[.string t] 9)).alloc (.cells #[.int .i64 0] 3):=by
 go_enter Tryd.func25,Tryd.ntmps25
 go_wp2_with (go_at_call 34;refine (split_raw _ _ _).mono ?_;rintro e w' ⟨rfl,rfl⟩)
 go_ret
 exact ⟨rfl,rfl⟩
theorem sign_at:∀ k,k < 19→Lib.indexByte (restS k) 32=((wordS k).length:Int)∧(restS k).take (wordS k).length=wordS k∧(restS k).drop ((wordS k).length+1)=restS (k+1)∧(wordS k).length≤2∧(wordS k).length+1≤(restS k).length:=by decide
theorem sign_end:Lib.indexByte (restS 19) 32=-1∧restS 19=wordS 19:=by decide
def leftS (B:Nat) (W:World):Nat:=match W.cell? ⟨B,0,none⟩ with | some (.string b)=>b.size | _=>0
abbrev bs (l:List UInt8):ByteArray:=⟨⟨l⟩⟩
theorem ext_take (l:List UInt8) (i:Nat):(bs l).extract 0 i=bs (l.take i):=by
 rw[Lib.extract_eq];simp
set_option maxRecDepth 100000 in
set_option maxHeartbeats 1000000 in
theorem iter_raw (n l B0 B1 B2:Nat) (hn:1≤n) (K K1:Nat→World→Prop) (Kx:World→Prop)
  (hK:∀ k W,k < 20→K k W→W.cell? ⟨B1,0,none⟩=some (.string (bs [32]))∧W.cell? ⟨B0,0,none⟩=some (.string (bs (restS k)))∧W.frozen? ⟨B0,0,none⟩=false∧W.cell? ⟨B2,0,none⟩=some (.int .i64 0))
  (hK1:∀ k W,k < 20→K1 k W→W.cell? ⟨B1,0,none⟩=some (.string (bs [32]))∧W.cell? ⟨B0,0,none⟩=some (.string (bs (restS k)))∧W.frozen? ⟨B0,0,none⟩=false)
  (hs:∀ k W,k < 19→K1 k W→K (k+1) (W.setCell ⟨B0,0,none⟩ (.string (bs (restS (k+1))))))
  (hY:∀ k W,k < 20→K k W→YieldAt Fence.wide (n - 1) Tryd.prog l #[.string (bs (wordS k))] W fun e W'=>(e=.returned (.bool true)∧K1 k W')∨(e=.returned (.bool false)∧Kx W'))
  (W:World) (h0:K 0 W) :
  CallsIn Fence.wide n Tryd.prog 45 #[.func (.yield l) #[] #[],.pointer (some ⟨B1,0,none⟩),.pointer (some ⟨B0,0,none⟩),.pointer (some ⟨B2,0,none⟩)] W fun e W'=>(∃ v,e=.returned v)∧(K1 19 W'∨Kx W'):=by
 refine callsIn_of_wp Tryd.func45 rfl trivial ?_ rfl
 simp only[Tryd.ntmps45,List.size_toArray,List.length_cons,List.length_nil,Nat.reduceAdd,Nat.reduceSub,Array.replicate_succ,Array.replicate_zero,List.push_toArray,List.append_toArray,List.nil_append,List.cons_append]
 obtain ⟨c1,c0,cf,c2⟩:=hK 0 W (by omega) h0
 gi_wp2
 gi_loopw [7] (fun _ wr=>∃ k,k < 20∧K k wr) (fun _ wr=>leftS B0 wr)
 case atStart=>exact ⟨0,by omega,h0⟩
 case round =>
  obtain ⟨k,hk,hKk⟩:=hrel
  obtain ⟨d1,d0,df,d2⟩:=hK k wr hk hKk
  by_cases h19:k < 19
  ·obtain ⟨e1,e2,e3,e4,e5⟩:=sign_at k h19
   obtain ⟨fn,tmps,assign,body,hy,hR⟩:=hY k wr hk hKk
   have x1:(bs (restS k)).extract 0 (wordS k).length=bs (wordS k):=by rw[ext_take,e2]
   have x2:(bs (restS k)).extract ((wordS k).length+1) (restS k).length=bs (restS (k+1)):=by rw[Lib.extract_eq,← e3,List.take_of_length_le (by simp)]
   gi_wp2_with (refine ⟨trivial,?_⟩;gi_at_call 47;refine (callsIn_wide.2 (index_any _ _)).mono ?_;rintro e w' ⟨rfl,rfl⟩)
   refine hR.mono ?_
   rintro e W3 (⟨rfl,h3⟩ | ⟨rfl,h3⟩)
   ·obtain ⟨g1,g0,gf⟩:=hK1 k W3 hk h3
    gi_wp2
    go_roundw
    case rel=>exact ⟨k+1,by omega,hs k W3 h19 h3⟩
    case measure =>
     have hset:(W3.setCell ⟨B0,0,none⟩ (.string (bs (restS (k+1))))).cell? ⟨B0,0,none⟩=some (.string (bs (restS (k+1)))):=World.cell?_setCell_same' _ _ _ (by rw[g0];rfl)
     unfold leftS
     rw[hset,d0]
     show (restS (k+1)).length < (restS k).length
     rw[← e3,List.length_drop]
     omega
   ·gi_wp2
    refine bodyPost_ret (results_none rfl _ _ _) rfl ?_
    exact ⟨⟨_,rfl⟩,.inr h3⟩
  ·obtain rfl:k=19:=by omega
   obtain ⟨e1,e2⟩:=sign_end
   obtain ⟨fn,tmps,assign,body,hy,hR⟩:=hY 19 wr hk hKk
   gi_wp2_with (refine ⟨trivial,?_⟩;gi_at_call 47;refine (callsIn_wide.2 (index_any _ _)).mono ?_;rintro e w' ⟨rfl,rfl⟩)
   refine hR.mono ?_
   rintro e W3 (⟨rfl,h3⟩ | ⟨rfl,h3⟩)
   ·gi_wp2
    go_end0
    exact ⟨⟨_,rfl⟩,.inl h3⟩
   ·gi_wp2
    go_end0
    exact ⟨⟨_,rfl⟩,.inr h3⟩
theorem box_cell {W:World} {B:Nat} {v:Value} {t:TypeId} (h:W.heap[B]?=some (.cells #[v] t (0,0))):W.cell? ⟨B,0,none⟩=some v∧W.frozen? ⟨B,0,none⟩=false:=by
 constructor<;>simp[World.cell?,World.frozen?,h]
theorem set_same {W:World} {B:Nat} {u v:Value} {t:TypeId} (h:W.heap[B]?=some (.cells #[u] t (0,0))):(W.setCell ⟨B,0,none⟩ v).heap[B]?=some (.cells #[v] t (0,0)):=by
 obtain ⟨hlt,hk⟩:=Array.getElem?_eq_some_iff.1 h
 show (W.heap.modify B _)[B]?=_
 rw[Array.getElem?_eq_getElem (by rw[Array.size_modify];exact hlt),Array.getElem_modify_self,hk]
 rfl
structure AtS (w:World) (s:ByteArray) (r rest:List UInt8) (lp:Loop) (W:World):Prop where
 below:Below w.heap.size w W
 c0:W.heap[w.heap.size]?=some (.cells #[.string s] 9 (0,0))
 c1:W.heap[w.heap.size+1]?=some (.cells #[.string (bs r)] 9 (0,0))
 c2:W.heap[w.heap.size+2]?=some (.cells #[.string (bs rest)] 9 (0,0))
 c3:W.heap[w.heap.size+3]?=some (.cells #[.string (bs [32])] 9 (0,0))
 c4:W.heap[w.heap.size+4]?=some (.cells #[.int .i64 0] 3 (0,0))
 dd:W.heap[w.heap.size+5]?=some (.deferred (some []))
 ll:W.heap[w.heap.size+6]?=some (.loop lp)
theorem AtS.loop {w:World} {s:ByteArray} {r rest:List UInt8} {lp:Loop} {W:World} (h:AtS w s r rest lp W) (lp':Loop):AtS w s r rest lp' (W.putObj (w.heap.size+6) (.loop lp')) :=
 have ne:∀ k,k≠w.heap.size+6→(W.putObj (w.heap.size+6) (.loop lp')).heap[k]?=W.heap[k]?:=fun k e=>World.putObj_heap_other e
 ⟨⟨h.below.os,h.below.tape,h.below.output,by simpa using h.below.size,fun k hk=>(ne k (by omega)).trans (h.below.block k hk)⟩,(ne _ (by omega)).trans h.c0,(ne _ (by omega)).trans h.c1,(ne _ (by omega)).trans h.c2,(ne _ (by omega)).trans h.c3,(ne _ (by omega)).trans h.c4,(ne _ (by omega)).trans h.dd,World.putObj_heap_same (Array.getElem?_eq_some_iff.1 h.ll).1⟩
theorem set_below {w W:World} (h:Below w.heap.size w W) {B:Nat} (hb:w.heap.size≤B) (v:Value):Below w.heap.size w (W.setCell ⟨B,0,none⟩ v) :=
 ⟨h.os,h.tape,h.output,by show w.heap.size≤(W.heap.modify _ _).size;rw[Array.size_modify];exact h.size,fun k hk=>(Below.heap_setCell W ⟨B,0,none⟩ v k (by show k≠B;omega)).trans (h.block k hk)⟩
theorem AtS.answer {w:World} {s:ByteArray} {r rest:List UInt8} {lp:Loop} {W:World} (h:AtS w s r rest lp W) (r':List UInt8):AtS w s r' rest lp (W.setCell ⟨w.heap.size+1,0,none⟩ (.string (bs r'))) :=
 have ne:∀ k,k≠w.heap.size+1→(W.setCell ⟨w.heap.size+1,0,none⟩ (.string (bs r'))).heap[k]?=W.heap[k]?:=fun k e=>Below.heap_setCell W _ _ k e
 ⟨set_below h.below (by omega) _,(ne _ (by omega)).trans h.c0,set_same h.c1,(ne _ (by omega)).trans h.c2,(ne _ (by omega)).trans h.c3,(ne _ (by omega)).trans h.c4,(ne _ (by omega)).trans h.dd,(ne _ (by omega)).trans h.ll⟩
theorem AtS.rest {w:World} {s:ByteArray} {r rest:List UInt8} {lp:Loop} {W:World} (h:AtS w s r rest lp W) (rest':List UInt8):AtS w s r rest' lp (W.setCell ⟨w.heap.size+2,0,none⟩ (.string (bs rest'))) :=
 have ne:∀ k,k≠w.heap.size+2→(W.setCell ⟨w.heap.size+2,0,none⟩ (.string (bs rest'))).heap[k]?=W.heap[k]?:=fun k e=>Below.heap_setCell W _ _ k e
 ⟨set_below h.below (by omega) _,(ne _ (by omega)).trans h.c0,(ne _ (by omega)).trans h.c1,set_same h.c2,(ne _ (by omega)).trans h.c3,(ne _ (by omega)).trans h.c4,(ne _ (by omega)).trans h.dd,(ne _ (by omega)).trans h.ll⟩
def postS (w:World) (s:ByteArray) (k:Nat) (lp:Loop):Exit→Act→World→Prop
 | .normal,_,W=>Lib.hasPrefix s.data.toList (wordS k)=false∧AtS w s [] (restS k) lp W
 | .ret,_,W=>Lib.hasPrefix s.data.toList (wordS k)=true∧AtS w s (wordS k) (restS k) lp W
 | _,_,_=>False
def noneS (s:ByteArray) (k:Nat):Prop:=∀ j,j < k→Lib.hasPrefix s.data.toList (wordS j)=false
theorem range_signs {g:Operand} {ps:Array Tmp} {assign body:Code} {Q:Exit→Act→World→Prop} {a:Act} {w W0:World} {s:ByteArray}
  (hg:a.eval g=.func (.func 45) #[] #[.pointer (some ⟨w.heap.size+3,0,none⟩),.pointer (some ⟨w.heap.size+2,0,none⟩),.pointer (some ⟨w.heap.size+4,0,none⟩)])
  (hps:ps.size=1) (hz:W0.heap.size=w.heap.size+5) (hb:Below w.heap.size w W0)
  (c0:W0.heap[w.heap.size]?=some (.cells #[.string s] 9 (0,0))) (c1:W0.heap[w.heap.size+1]?=some (.cells #[.string (bs [])] 9 (0,0)))
  (c2:W0.heap[w.heap.size+2]?=some (.cells #[.string (bs (restS 0))] 9 (0,0))) (c3:W0.heap[w.heap.size+3]?=some (.cells #[.string (bs [32])] 9 (0,0)))
  (c4:W0.heap[w.heap.size+4]?=some (.cells #[.int .i64 0] 3 (0,0)))
  (hround:∀ (l k:Nat) (W:World),k < 20→assign.wpIn (Fence.wide.inRound l) 2 Tryd.prog (Exit.then (fun a₁ W₁=>W₁=W∧∀ W' lp,AtS w s [] (restS k) lp W'→body.wpIn (Fence.wide.inRound l) 2 Tryd.prog (postS w s k lp) a₁ W') (fun _ _ _=>False))
   { tmps:=(ps.zip #[.string (bs (wordS k))]).foldl (fun t (p,v)=>t.setIfInBounds p v) a.tmps,defers:=[] } W)
  (hdone:∀ (lp:Loop) (W:World),AtS w s [] (restS 19) lp W→noneS s 20→Q .normal { a with defers:={ target:=.collected (w.heap.size+5),args:=#[] } :: a.defers } W)
  (hstop:∀ (k:Nat) (lp:Loop) (W:World),k < 20→AtS w s (wordS k) (restS k) lp W→noneS s k→Lib.hasPrefix s.data.toList (wordS k)=true→Code.ret.wpIn Fence.wide 4 Tryd.prog Q { a with defers:={ target:=.collected (w.heap.size+5),args:=#[] } :: a.defers } W) :
  (Code.rangeFunc g ps assign body).wpIn Fence.wide 4 Tryd.prog Q a W0:=by
 refine wpIn_rangeFunc ?_
 intro fn hfn
 obtain ⟨rec,hrec⟩:∃ rec:LoopState→Option Code→Loop,rec=fun st pe=>{ state:=st,pending:=pe,fn,tmps:=a.tmps,params:=ps,assign,body,defers:=w.heap.size+5 }:=⟨_,rfl⟩
 obtain ⟨W1,hW1⟩:∃ W1,(W0.alloc (.deferred (some []))).alloc (.loop (rec .ready none))=W1:=⟨_,rfl⟩
 have hA1:AtS w s [] (restS 0) (rec .ready none) W1:=by
  have up:∀ k,k < w.heap.size+5→W1.heap[k]?=W0.heap[k]?:=fun k hk=>by
   rw[← hW1]
   exact (Below.heap_alloc _ _ _ (by rw[World.size_alloc,hz];omega)).trans (Below.heap_alloc _ _ _ (by omega))
  refine ⟨?_,(up _ (by omega)).trans c0,(up _ (by omega)).trans c1,(up _ (by omega)).trans c2,(up _ (by omega)).trans c3,(up _ (by omega)).trans c4,?_,?_⟩
  ·rw[← hW1]
   exact (hb.alloc hb.size _).alloc (by rw[World.size_alloc];omega) _
  ·rw[← hW1]
   refine (Below.heap_alloc _ _ _ (by rw[World.size_alloc];omega)).trans ?_
   have:=World.alloc_heap_new W0 (.deferred (some []))
   rwa [hz] at this
  ·rw[← hW1]
   have:=World.alloc_heap_new (W0.alloc (.deferred (some []))) (.loop (rec .ready none))
   rwa [World.size_alloc,hz] at this
 refine ⟨w.heap.size+6,[{ target:=.collected (w.heap.size+5),args:=#[] }],W1,{ target:=.fn (.func 45) #[.pointer (some ⟨w.heap.size+3,0,none⟩),.pointer (some ⟨w.heap.size+2,0,none⟩),.pointer (some ⟨w.heap.size+4,0,none⟩)],args:=#[.func (.yield (w.heap.size+6)) #[] #[]] },W1,45,
  #[.func (.yield (w.heap.size+6)) #[] #[],.pointer (some ⟨w.heap.size+3,0,none⟩),.pointer (some ⟨w.heap.size+2,0,none⟩),.pointer (some ⟨w.heap.size+4,0,none⟩)],W1,?_,?_,fun _ _=>trivial,?_,fun h=>by omega,?_⟩
 ·have:=run_enterLoop_outer (P:=Tryd.prog) (w:=W0) fn a.tmps ps assign body
  rw[hz] at this
  rw[← hW1,hrec]
  exact this
 ·simp only[resolve,hg]
  simp[go_sem]
 ·have e45:∀ args w,(callFunc 45 args).run Tryd.prog w=.ok (.enter 45 args) w:=enters_of Tryd.func45 (by kernel_rfl) rfl
  simp[invoke,go_sem,e45]
 ·refine (iter_raw 3 (w.heap.size+6) (w.heap.size+2) (w.heap.size+3) (w.heap.size+4) (by omega)
   (fun k W=>noneS s k∧AtS w s [] (restS k) (rec .ready none) W) (fun k W=>noneS s (k+1)∧AtS w s [] (restS k) (rec .ready none) W)
   (fun W=>∃ k,k < 20∧noneS s k∧Lib.hasPrefix s.data.toList (wordS k)=true∧AtS w s (wordS k) (restS k) (rec .done (some .ret)) W)
   (fun k W _ h=>⟨(box_cell h.2.c3).1,(box_cell h.2.c2).1,(box_cell h.2.c2).2,(box_cell h.2.c4).1⟩)
   (fun k W _ h=>⟨(box_cell h.2.c3).1,(box_cell h.2.c2).1,(box_cell h.2.c2).2⟩)
   (fun k W _ h=>⟨h.1,h.2.rest _⟩) ?_ W1 ⟨fun j hj=>by omega,hA1⟩).mono ?_
  ·rintro k W hk ⟨hn,hA⟩
   have hy:=run_yield (P:=Tryd.prog) (args:=#[.string (bs (wordS k))]) hA.ll (by rw[hrec];simp[hps])
   have hl:=hA.ll
   rw[hrec] at hy
   refine ⟨fn,_,assign,body,hy,roundIn_of_wpIn hfn (wpIn_mono (hround _ k W hk) ?_)⟩
   rintro e a1 W2 hp
   cases e with
   | normal =>
    obtain ⟨rfl,hp⟩:=hp
    refine ⟨_,run_beginRound hl (by rw[hrec]),wpIn_mono (hp _ _ (hA.loop _)) ?_⟩
    rintro e a3 W3 hq
    cases e with
    | normal =>
     obtain ⟨h1,h2⟩:=hq
     have:=run_endRound (P:=Tryd.prog) none h2.ll
     refine ⟨_,_,this,.inl ⟨rfl,fun j hj=>?_,?_⟩⟩
     ·by_cases hjk:j < k
      ·exact hn j hjk
      ·obtain rfl:j=k:=by omega
       exact h1
     ·have:=h2.loop (rec .ready none)
      rw[hrec] at this ⊢
      exact this
    | ret =>
     obtain ⟨h1,h2⟩:=hq
     have:=run_endRound (P:=Tryd.prog) (some .ret) h2.ll
     refine ⟨_,_,this,.inr ⟨rfl,k,hk,hn,h1,?_⟩⟩
     have:=h2.loop (rec .done (some .ret))
     rw[hrec] at this ⊢
     exact this
    | _=>exact hq.elim
   | _=>exact hp.elim
  ·rintro e W2 ⟨⟨v,rfl⟩,(⟨hn,hA⟩ | ⟨k,hk,hn,hp,hA⟩)⟩
   ·have:=run_endLoop (P:=Tryd.prog) hA.ll (by rw[hrec];simp)
    rw[show (rec .ready none).pending=none from by rw[hrec]] at this
    exact ⟨none,_,this,hdone _ _ (hA.loop _) hn⟩
   ·have:=run_endLoop (P:=Tryd.prog) hA.ll (by rw[hrec];simp)
    rw[show (rec .done (some .ret)).pending=some .ret from by rw[hrec]] at this
    exact ⟨some .ret,_,this,hstop k _ _ hk (hA.loop _) hn hp⟩
theorem AtS.out {w:World} {s:ByteArray} {r rest:List UInt8} {lp:Loop} {W:World} (h:AtS w s r rest lp W):(W.putObj (w.heap.size+5) (.deferred none)).cell? ⟨w.heap.size+1,0,none⟩=some (.string (bs r))∧Below w.heap.size w (W.putObj (w.heap.size+5) (.deferred none)) :=
 have ne:∀ k,k≠w.heap.size+5→(W.putObj (w.heap.size+5) (.deferred none)).heap[k]?=W.heap[k]?:=fun k e=>World.putObj_heap_other e
 ⟨(box_cell ((ne _ (by omega)).trans h.c1)).1,⟨h.below.os,h.below.tape,h.below.output,by simpa using h.below.size,fun k hk=>(ne k (by omega)).trans (h.below.block k hk)⟩⟩
theorem find_at {p:List UInt8→Bool}:∀ (l:List (List UInt8)) (k:Nat),k < l.length→(∀ j,j < k→p (l.getD j [])=false)→p (l.getD k [])=true→l.find? p=some (l.getD k [])
 | [],k,h,_,_=>by simp at h
 | x :: l,0,_,_,hp=>by simp only[List.getD_cons_zero] at hp ⊢;simp[hp]
 | x :: l,k+1,h,hn,hp=>by
  have h0:p x=false:=by simpa using hn 0 (by omega)
  simp only[List.getD_cons_succ] at hp ⊢
  rw[List.find?_cons_of_neg (by simp[h0])]
  exact find_at l k (by simpa using h) (fun j hj=>by simpa using hn (j+1) (by omega)) hp
theorem find_no {p:List UInt8→Bool}:∀ (l:List (List UInt8)),(∀ j,j < l.length→p (l.getD j [])=false)→l.find? p=none
 | [],_=>rfl
 | x :: l,hn=>by
  have h0:p x=false:=by simpa using hn 0 (by simp)
  rw[List.find?_cons_of_neg (by simp[h0])]
  exact find_no l (fun j hj=>by simpa using hn (j+1) (by simpa using hj))
theorem sign_some {s:ByteArray} {k:Nat} (hk:k < 20) (hn:noneS s k) (hp:Lib.hasPrefix s.data.toList (wordS k)=true):signOf s.data.toList=wordS k:=by
 unfold signOf
 rw[find_at signL k hk hn hp]
 rfl
theorem sign_none {s:ByteArray} (hn:noneS s 20):signOf s.data.toList=[]:=by
 unfold signOf
 rw[find_no signL hn]
 rfl
theorem five (w:World) (o0 o1 o2 o3 o4:Obj):(((((w.alloc o0).alloc o1).alloc o2).alloc o3).alloc o4).heap[w.heap.size]?=some o0∧(((((w.alloc o0).alloc o1).alloc o2).alloc o3).alloc o4).heap[w.heap.size+1]?=some o1 ∧
  (((((w.alloc o0).alloc o1).alloc o2).alloc o3).alloc o4).heap[w.heap.size+2]?=some o2∧(((((w.alloc o0).alloc o1).alloc o2).alloc o3).alloc o4).heap[w.heap.size+3]?=some o3∧(((((w.alloc o0).alloc o1).alloc o2).alloc o3).alloc o4).heap[w.heap.size+4]?=some o4:=by
 rw[show (((((w.alloc o0).alloc o1).alloc o2).alloc o3).alloc o4).heap=((((w.heap.push o0).push o1).push o2).push o3).push o4 from rfl]
 simp only[Array.getElem?_push,Array.size_push]
 refine ⟨?_,?_,?_,?_,?_⟩
 ·rw[if_neg (by omega),if_neg (by omega),if_neg (by omega),if_neg (by omega),if_pos trivial]
 ·rw[if_neg (by omega),if_neg (by omega),if_neg (by omega),if_pos trivial]
 ·rw[if_neg (by omega),if_neg (by omega),if_pos trivial]
 ·rw[if_neg (by omega),if_pos trivial]
 ·rw[if_pos trivial]
set_option maxRecDepth 100000 in
set_option maxHeartbeats 1000000 in
theorem sign_raw (s:ByteArray) (w:World):Calls Tryd.prog 13 #[.string s] w fun e w'=>e=.returned (.string (bs (signOf s.data.toList)))∧Below w.heap.size w w':=by
 refine (callsIn_wide (n:=4)).1 ?_
 refine callsIn_of_wp_marks Tryd.func13 rfl trivial ?_ rfl
 simp only[Tryd.ntmps13,List.size_toArray,List.length_cons,List.length_nil,Nat.reduceAdd,Nat.reduceSub,Array.replicate_succ,Array.replicate_zero,List.push_toArray,List.append_toArray,List.nil_append,List.cons_append]
 gi_wp2_with (refine ⟨trivial,?_⟩;gi_at_call 25;refine (callsIn_wide.2 (seq_raw _ _ _)).mono ?_;rintro e w' ⟨rfl,rfl⟩)
 have hne:w.heap.size+5=w.heap.size+1+1+3:=rfl
 refine range_signs (w:=w) (s:=s) rfl rfl (by simp[World.size_alloc]) ?_ ?_ ?_ ?_ ?_ ?_ ?round ?done ?stop
 ·exact ((((Below.refl w.heap.size w).alloc (Nat.le_refl _) _).alloc (by simp) _).alloc (by simp;omega) _ |>.alloc (by simp;omega) _).alloc (by simp;omega) _
 ·exact (five _ _ _ _ _ _).1
 ·exact (five _ _ _ _ _ _).2.1
 ·exact (five _ _ _ _ _ _).2.2.1
 ·exact (five _ _ _ _ _ _).2.2.2.1
 ·exact (five _ _ _ _ _ _).2.2.2.2
 case round =>
  intro l k W hk
  gi_wp2
  intro W' lp hA
  obtain ⟨d0,_⟩:=box_cell hA.c0
  obtain ⟨d1,df⟩:=box_cell hA.c1
  gi_wp2_with (refine ⟨trivial,?_⟩;gi_at_call 26;refine (CallsIn.inRound l (callsIn_wide.2 (Any.strings_HasPrefix laysPrefix _ _ _))).mono ?_;rintro e w' ⟨rfl,rfl⟩)
  ·rename_i hx
   exact ⟨hx,hA.answer _⟩
  ·rename_i hx
   exact ⟨hx,hA⟩
 case done =>
  intro lp W hA hn
  obtain ⟨d1,df⟩:=box_cell hA.c1
  gi_wp2
  have hA':=hA.answer []
  refine ⟨by simp,.inl ⟨_,_,rfl,run_takeDeferred hA'.dd,?_⟩⟩
  obtain ⟨d2,hb⟩:=hA'.out
  rw[sign_none hn]
  refine ⟨.string (bs []),?_,rfl,hb⟩
  simp[results,Tryd.f13,go_sem,d2]
 case stop =>
  intro k lp W hk hA hn hp
  gi_wp2
  refine ⟨by simp,.inl ⟨_,_,rfl,run_takeDeferred hA.dd,?_⟩⟩
  obtain ⟨d2,hb⟩:=hA.out
  rw[sign_some hk hn hp]
  refine ⟨.string (bs (wordS k)),?_,rfl,hb⟩
  simp[results,Tryd.f13,go_sem,d2]
end Go.Proofs.YtjlaaanmjaihaaaDoor

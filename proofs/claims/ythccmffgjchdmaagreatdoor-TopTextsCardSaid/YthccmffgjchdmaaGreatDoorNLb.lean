import Derived.Test.YthccmffgjchdmaaGreatDoorNNu
import Derived.Test.YthccmffgjchdmaaGreatDoorNDlaw
import Derived.Shelf.Strconv.AtoiAll
import Derived.Shelf.Strconv.Itoa3
import Derived.Lib.AtoiErrMem
import Derived.Lib.SmallJoins
import Derived.Ground.NamesProg
import Derived.WalkKit
import Derived.BigCall
import Derived.Test.YthccmffgjchdmaaGreatDoorProg
import Derived.KernelRfl
import Derived.RangeFuncNested
import Derived.RangeFuncBound
import Derived.RangeFuncCalls
import Derived.RangeFuncLeaves
import Derived.Shelf.Abstract
import Derived.Shelf.RegionOpen
import Derived.Shelf.Strings.Prefix
import Derived.Shelf.Strings.Search2
import Derived.OwnWalkIn
import Derived.TacticsInMore
import Derived.LoopNIn
import Derived.LoopIn
import Derived.Test.YthccmffgjchdmaaGreatDoorNDs
import Derived.Test.YthccmffgjchdmaaGreatDoorRows
import Derived.Stop.LaidErr
import Derived.Lib.LaidTab
import Derived.LaidMore
open Go Go.Proofs Go.Proofs.YthccmffgjchdmaaGreatDoor
namespace ZN
open Go Go.Shelf Go.RowKit Barb
def ZnC : Go.Shelf.Ren := ⟨fun | 172 => 70 | 244 => 101 | 245 => 102 | 247 => 120 | 279 => 121 | 280 => 122 | 281 => 123 | 282 => 124 | 287 => 137 | 316 => 138 | 171 => 16 | 205 => 139 | 321 => 151 | 322 => 152 | 243 => 40 | 246 => 67 | 283 => 96 | 284 => 97 | 285 => 98 | 286 => 99 | 129 => 116 | 317 => 115 | 318 => 117 | 319 => 118 | 320 => 119 | 337 => 135 | 338 => 136 | n => n, fun | 9 => 9 | 3 => 3 | 75 => 63 | 76 => 64 | 4 => 4 | 5 => 5 | 167 => 207 | 37 => 59 | 0 => 0 | 85 => 208 | 2 => 2 | 168 => 210 | 53 => 178 | 175 => 226 | 46 => 205 | 210 => 229 | 127 => 116 | 145 => 244 | 143 => 242 | 21 => 21 | 171 => 177 | 173 => 181 | 212 => 202 | 51 => 203 | 20 => 20 | 213 => 204 | 232 => 239 | 233 => 240 | 80 => 74 | n => n, fun | 15 => 5 | 16 => 6 | 17 => 2 | 18 => 7 | 19 => 8 | n => n⟩
theorem Zl8 : Go.Proofs.LaysC.n172 Tryz.prog ZnC := by
  repeat' first | kernel_rfl | (intro w; kernel_rfl) | (intro w; rfl) | constructor
def ZnB : Go.Shelf.Ren := ⟨fun | 171 => 16 | 243 => 40 | 246 => 67 | 283 => 96 | 284 => 97 | 285 => 98 | 286 => 99 | 129 => 116 | 317 => 115 | 318 => 117 | 319 => 118 | 320 => 119 | 337 => 135 | 338 => 136 | n => n, fun | 3 => 3 | 9 => 9 | 2 => 2 | 4 => 4 | 171 => 177 | 0 => 0 | 53 => 178 | 37 => 59 | 5 => 5 | 173 => 181 | 212 => 202 | 51 => 203 | 20 => 20 | 213 => 204 | 46 => 205 | 232 => 239 | 233 => 240 | n => n, fun | 17 => 2 | 18 => 7 | 19 => 8 | n => n⟩
theorem ZwD : Go.Proofs.LaysM.n171 Tryz.prog ZnB := by
  repeat' first | kernel_rfl | (intro w; kernel_rfl) | (intro w; rfl) | constructor
structure LibOk (w:World):Prop where
 synt:∃t p,w.cell? ⟨5,0,none⟩=some (.iface t p)
 rang:∃t p,w.cell? ⟨6,0,none⟩=some (.iface t p)
 tab : Lib.TabIs Tryz.prog w "internal/strconv.uint64pow10" .u64 Lib.pow10Tab
theorem Zf4 : Tryz.prog.globalNamed "internal/strconv.uint64pow10" = some 2 := by kernel_rfl
theorem Zxy {w w' : World} (h : Lib.TabIs Tryz.prog w "internal/strconv.uint64pow10" .u64 Lib.pow10Tab) (hb : Below w.heap.size w w') : Lib.TabIs Tryz.prog w' "internal/strconv.uint64pow10" .u64 Lib.pow10Tab :=
 Joins.tab_stays Zf4 h hb (Yas _)
theorem ZsD (w:World) (q:Nat) (os:Array Obj):Below w.heap.size w (Sort.grow (w.drewN q) os) :=
 ⟨rfl,rfl,rfl,by simp[Sort.grow],λi hi=>by
  show ((w.drewN q).heap++os)[i]?=_;rw[Yba (by show i < w.heap.size;omega)];rfl⟩
theorem ZpI (s:ByteArray) (hs:s.size<=140737488351232) (v:Int) (h:Lib.atoiAll s.data.toList=.ok v) (w:World) :
  Calls Tryz.prog 70 #[.string s] w λe w'=>e=.returned (.tuple #[.int .i64 v,.nilIface])/\Below w.heap.size w w' :=
 (Any.strconv_Atoi_ok Zl8 s (by omega) v h w).mono (by
  rintro e w' ⟨rfl,hw⟩;refine ⟨rfl,?_⟩;rcases hw with rfl | ⟨t,rfl⟩
  ·exact Below.refl _ _
  ·exact Lib.bytesWorld_below _ _ _)
theorem ZzU (s:ByteArray) (hs:s.size<=140737488351232) (h:∀v,Lib.atoiAll s.data.toList≠.ok v) (w:World) (hw:LibOk w) :
  Calls Tryz.prog 70 #[.string s] w λe w'=>∃n t p,e=.returned (.tuple #[.int .i64 n,.iface t p])/\Below w.heap.size w w':=by
 obtain ⟨t0,p0,h0⟩:=hw.synt;obtain ⟨t1,p1,h1⟩:=hw.rang;cases ha:Lib.atoiAll s.data.toList with
 | ok v=>exact absurd ha (h v)
 | range =>refine (Any.strconv_Atoi_range Zl8 s (by omega) ha _ w h1 (.inr ⟨_,_,rfl⟩)).mono ?_;rintro e w' ⟨N,rfl,-,-,hb⟩;exact ⟨_,_,_,rfl,hb⟩
 | _ =>refine (Any.strconv_Atoi_syntax Zl8 s (by omega) ha _ w h0 (.inr ⟨_,_,rfl⟩)).mono ?_;rintro e w' ⟨N,rfl,-,-,hb⟩;exact ⟨_,_,_,rfl,hb⟩
theorem Zpm (n : Int) (h0 : 0 ≤ n) (h1 : n ≤ 65535) (w : World) (ht : Lib.TabIs Tryz.prog w "internal/strconv.uint64pow10" .u64 Lib.pow10Tab) :
  Calls Tryz.prog 16 #[.int .i64 n] w λe w'=>e=.returned (.string ⟨(Lib.itoa n).toArray⟩)/\Below w.heap.size w w' :=
 (Any.strconv_Itoa ZwD n (by omega) (by omega) w ht).mono (by
  rintro e w' ⟨rfl,k,os,rfl⟩;exact ⟨rfl,ZsD _ _ _⟩)
set_option maxRecDepth 100000 in
theorem ZrY (s:ByteArray) (hs:s.size<=140737488351232) (w:World) (hw:LibOk w) :
  Calls Tryz.prog 45 #[.string s] w λe w'=>e=.returned (.tuple #[.int .i64 (Zt9 s.data.toList),.bool (Zua s.data.toList)])/\Below w.heap.size w w':=by
 by_cases hn:ZnG s.data.toList
 ·obtain ⟨n,h5,he⟩:=hn;have ha:=ZpJ h5;rw[<- he] at ha;obtain ⟨r1,r2⟩:=Zha h5;rw[<- he] at r1 r2;rw[r1,r2];have hi:Lib.itoa (n:Int)=s.data.toList:=by rw[Lib.itoa_nonneg];exact he.symm
  have hI : ∀ w, Lib.TabIs Tryz.prog w "internal/strconv.uint64pow10" .u64 Lib.pow10Tab → Calls Tryz.prog 16 #[.int .i64 (n : Int)] w fun e w' => e = .returned (.string s) ∧ Below w.heap.size w w' := fun w ht => (Zpm (n : Int) (by omega) (by omega) w ht).mono (by
   rintro e w' ⟨rfl,hb⟩;refine ⟨?_,hb⟩;rw[hi])
  go_enter Tryz.func45,Tryz.ntmps45
  go_wp2_with (first
   | (go_at_call 70;refine (ZpI s hs _ ha _).mono ?_;rintro e w1 ⟨rfl,hb1⟩)
   | (go_at_call 16;refine (hI _ (Zxy hw.tab hb1)).mono ?_;rintro e w2 ⟨rfl,hb2⟩)
   | go_in)
  go_ret2
  exact ⟨rfl,hb1.trans (hb2.mono hb1.size)⟩
 ·obtain ⟨r1,r2⟩:=ZlR hn;rw[r1,r2];by_cases hok:∃v,Lib.atoiAll s.data.toList=.ok v
  ·obtain ⟨v,ha⟩:=hok;by_cases hv:0<=v/\v<=65535
   ·obtain ⟨hv0,hv1⟩:=hv;obtain ⟨n,rfl⟩:∃n:Nat,v=(n:Int):=⟨v.toNat,by omega⟩;have hne:¬Lib.itoa (n:Int)=s.data.toList:=λe=>hn ⟨n,by omega,by rw[<- e,<- Lib.itoa_nonneg]⟩
    have hI : ∀ w, Lib.TabIs Tryz.prog w "internal/strconv.uint64pow10" .u64 Lib.pow10Tab → Calls Tryz.prog 16 #[.int .i64 (n : Int)] w fun e w' => ∃ z : ByteArray, (z.toList == s.toList) = false ∧ e = .returned (.string z) ∧ Below w.heap.size w w' := fun w ht => (Zpm (n : Int) (by omega) (by omega) w ht).mono (by
     rintro e w' ⟨rfl,hb⟩;exact ⟨_,by rw[Go.Eng.str_eq];exact decide_eq_false (λe=>hne (by rw[<- e])),rfl,hb⟩)
    clear hne
    go_enter Tryz.func45,Tryz.ntmps45
    go_wp2_with (first
     | (go_at_call 70;refine (ZpI s hs _ ha _).mono ?_;rintro e w1 ⟨rfl,hb1⟩)
     | (go_at_call 16;refine (hI _ (Zxy hw.tab hb1)).mono ?_;rintro e w2 ⟨z,hz,rfl,hb2⟩)
     | go_in)
    go_ret2
    exact ⟨rfl,hb1.trans (hb2.mono hb1.size)⟩
   ·go_enter Tryz.func45,Tryz.ntmps45
    go_wp2_with (first
     | (go_at_call 70;refine (ZpI s hs _ ha _).mono ?_;rintro e w1 ⟨rfl,hb1⟩)
     | go_in)
    all_goals
     go_ret2
     exact ⟨rfl,hb1⟩
  ·go_enter Tryz.func45,Tryz.ntmps45
   go_wp2_with (first
    | (go_at_call 70;refine (ZzU s hs (λv h=>hok ⟨v,h⟩) _ hw).mono ?_;rintro e w1 ⟨n,t,p,rfl,hb1⟩)
    | go_in)
   go_ret2
   exact ⟨rfl,hb1⟩
end ZN
namespace ZN
open Go Go.Shelf Go.RowKit
attribute [local go_sem] Oper.semAt_some
def Zkz : Go.Shelf.Ren := ⟨fun | 99 => 72 | 206 => 104 | n => n, fun | 9 => 9 | 4 => 4 | 3 => 3 | n => n, fun | n => n⟩
theorem Zr9 : Go.Proofs.Lays.n99 Tryz.prog Zkz := by
  repeat' first | kernel_rfl | (intro w; kernel_rfl) | (intro w; rfl) | constructor
def Zl7 : Go.Shelf.Ren := ⟨fun | 219 => 141 | 217 => 153 | 225 => 154 | 224 => 155 | 267 => 156 | 266 => 160 | 314 => 161 | n => n, fun | 9 => 9 | 3 => 3 | 4 => 4 | 5 => 5 | 46 => 205 | 146 => 252 | 51 => 203 | n => n, fun | 1 => 3 | n => n⟩
theorem ZfE : Go.Proofs.Lays.n219 Tryz.prog Zl7 := by
  repeat' first | kernel_rfl | (intro w; kernel_rfl) | (intro w; rfl) | constructor
def Zeg:List (List UInt8):=[[60,60],[62,62],[61,61],[123],[125],[40],[41],[91],[93],[44],[59],[46],[61],[43],[45],[42],[38],[124],[94],[60]]
def ZcY (k:Nat):List UInt8:=((Zeg.drop k).intersperse [32]).flatten
def ZdD (k:Nat):List UInt8:=Zeg.getD k []
def Zbj (s:List UInt8):List UInt8:=(Zeg.find? (λt=>Lib.hasPrefix s t)).getD []
theorem ZnJ (s:ByteArray) (w:World):Calls Tryz.prog 127 #[.string s,.string ⟨#[32]⟩] w λe w'=>e=.returned (.int .i64 (Lib.indexByte s.data.toList 32))/\w'=w:=by
 go_enter Tryz.func127,Tryz.ntmps127
 go_wp2_with (go_at_call 141;refine (Any.stringslite_Index_one ZfE _ _ _).mono ?_;rintro e w' ⟨rfl,rfl⟩)
 go_ret
 exact ⟨rfl,rfl⟩
theorem Ztp (s t:ByteArray) (w:World):Calls Tryz.prog 103 #[.string s,.string t,.int .i64 0] w λe w' =>
  e=.returned (.func (.func 125) #[] #[.pointer (some ⟨w.heap.size+1,0,none⟩),.pointer (some ⟨w.heap.size,0,none⟩),.pointer (some ⟨w.heap.size+2,0,none⟩)]) /\
  w'=((w.alloc (.cells #[.string s] 9)).alloc (.cells #[.string t] 9)).alloc (.cells #[.int .i64 0] 3):=by
 go_enter Tryz.func103,Tryz.ntmps103
 go_wp2
 go_ret
 exact ⟨rfl,rfl⟩
theorem ZyL (s t:ByteArray) (w:World):Calls Tryz.prog 71 #[.string s,.string t] w λe w' =>
  e=.returned (.func (.func 125) #[] #[.pointer (some ⟨w.heap.size+1,0,none⟩),.pointer (some ⟨w.heap.size,0,none⟩),.pointer (some ⟨w.heap.size+2,0,none⟩)]) /\
  w'=((w.alloc (.cells #[.string s] 9)).alloc (.cells #[.string t] 9)).alloc (.cells #[.int .i64 0] 3):=by
 go_enter Tryz.func71,Tryz.ntmps71
 go_wp2_with (go_at_call 103;refine (Ztp _ _ _).mono ?_;rintro e w' ⟨rfl,rfl⟩)
 go_ret
 exact ⟨rfl,rfl⟩
theorem ZyC:∀k,k < 19->Lib.indexByte (ZcY k) 32=((ZdD k).length:Int)/\(ZcY k).take (ZdD k).length=ZdD k/\(ZcY k).drop ((ZdD k).length+1)=ZcY (k+1)/\(ZdD k).length<=2/\(ZdD k).length+1<=(ZcY k).length:=by decide
theorem Zv1:Lib.indexByte (ZcY 19) 32=-1/\ZcY 19=ZdD 19:=by decide
def ZAW (B:Nat) (W:World):Nat:=match W.cell? ⟨B,0,none⟩ with | some (.string b)=>b.size | _=>0
abbrev bs (l:List UInt8):ByteArray:=⟨⟨l⟩⟩
theorem Zw0 (l:List UInt8) (i:Nat):(bs l).extract 0 i=bs (l.take i):=by rw[Lib.extract_eq];simp
set_option maxRecDepth 100000 in
set_option maxHeartbeats 1000000 in
theorem ZwF (n l B0 B1 B2:Nat) (hn:1<=n) (K K1:Nat->World->Prop) (Kx:World->Prop)
  (hK:∀k W,k < 20->K k W->W.cell? ⟨B1,0,none⟩=some (.string (bs [32]))/\W.cell? ⟨B0,0,none⟩=some (.string (bs (ZcY k)))/\W.frozen? ⟨B0,0,none⟩=false/\W.cell? ⟨B2,0,none⟩=some (.int .i64 0))
  (hK1:∀k W,k < 20->K1 k W->W.cell? ⟨B1,0,none⟩=some (.string (bs [32]))/\W.cell? ⟨B0,0,none⟩=some (.string (bs (ZcY k)))/\W.frozen? ⟨B0,0,none⟩=false)
  (hs:∀k W,k < 19->K1 k W->K (k+1) (W.setCell ⟨B0,0,none⟩ (.string (bs (ZcY (k+1))))))
  (hY:∀k W,k < 20->K k W->YieldAt Fence.wide (n - 1) Tryz.prog l #[.string (bs (ZdD k))] W λe W'=>(e=.returned (.bool true)/\K1 k W')\/(e=.returned (.bool false)/\Kx W'))
  (W:World) (h0:K 0 W) :
  CallsIn Fence.wide n Tryz.prog 125 #[.func (.yield l) #[] #[],.pointer (some ⟨B1,0,none⟩),.pointer (some ⟨B0,0,none⟩),.pointer (some ⟨B2,0,none⟩)] W λe W'=>(∃v,e=.returned v)/\(K1 19 W'\/Kx W'):=by
 refine callsIn_of_wp Tryz.func125 rfl trivial ?_ rfl;simp only[Tryz.ntmps125,List.size_toArray,List.length_cons,List.length_nil,Nat.reduceAdd,Nat.reduceSub,Array.replicate_succ,Array.replicate_zero,List.push_toArray,List.append_toArray,List.nil_append,List.cons_append];obtain ⟨c1,c0,cf,c2⟩:=hK 0 W (by omega) h0
 gi_wp2
 gi_loopw [7] (λ_ wr=>∃k,k < 20/\K k wr) (λ_ wr=>ZAW B0 wr)
 case atStart=>exact ⟨0,by omega,h0⟩
 case round =>
  obtain ⟨k,hk,hKk⟩:=hrel;obtain ⟨d1,d0,df,d2⟩:=hK k wr hk hKk;by_cases h19:k < 19
  ·obtain ⟨e1,e2,e3,e4,e5⟩:=ZyC k h19;obtain ⟨fn,tmps,assign,body,hy,hR⟩:=hY k wr hk hKk;have x1:(bs (ZcY k)).extract 0 (ZdD k).length=bs (ZdD k):=by rw[Zw0,e2]
   have x2:(bs (ZcY k)).extract ((ZdD k).length+1) (ZcY k).length=bs (ZcY (k+1)):=by rw[Lib.extract_eq,<- e3,Yay (by simp)]
   gi_wp2_with (refine ⟨trivial,?_⟩;gi_at_call 127;refine (callsIn_wide.2 (ZnJ _ _)).mono ?_;rintro e w' ⟨rfl,rfl⟩)
   refine hR.mono ?_;rintro e W3 (⟨rfl,h3⟩ | ⟨rfl,h3⟩)
   ·obtain ⟨g1,g0,gf⟩:=hK1 k W3 hk h3
    gi_wp2
    go_roundw
    case rel=>exact ⟨k+1,by omega,hs k W3 h19 h3⟩
    case measure =>
     have hset:(W3.setCell ⟨B0,0,none⟩ (.string (bs (ZcY (k+1))))).cell? ⟨B0,0,none⟩=some (.string (bs (ZcY (k+1)))):=World.cell?_setCell_same' _ _ _ (by rw[g0];rfl);unfold ZAW;rw[hset,d0];show (ZcY (k+1)).length < (ZcY k).length;rw[<- e3,YaM];omega
   ·gi_wp2
    refine bodyPost_ret (results_none rfl _ _ _) rfl ?_;exact ⟨⟨_,rfl⟩,.inr h3⟩
  ·obtain rfl:k=19:=by omega
   obtain ⟨e1,e2⟩:=Zv1;obtain ⟨fn,tmps,assign,body,hy,hR⟩:=hY 19 wr hk hKk
   gi_wp2_with (refine ⟨trivial,?_⟩;gi_at_call 127;refine (callsIn_wide.2 (ZnJ _ _)).mono ?_;rintro e w' ⟨rfl,rfl⟩)
   refine hR.mono ?_;rintro e W3 (⟨rfl,h3⟩ | ⟨rfl,h3⟩)
   ·gi_wp2
    go_end0
    exact ⟨⟨_,rfl⟩,.inl h3⟩
   ·gi_wp2
    go_end0
    exact ⟨⟨_,rfl⟩,.inr h3⟩
theorem ZcX {W:World} {B:Nat} {v:Value} {t:TypeId} (h:W.heap[B]?=some (.cells #[v] t (0,0))):W.cell? ⟨B,0,none⟩=some v/\W.frozen? ⟨B,0,none⟩=false:=by constructor<;>simp[World.cell?,World.frozen?,h]
theorem Zp0 {W:World} {B:Nat} {u v:Value} {t:TypeId} (h:W.heap[B]?=some (.cells #[u] t (0,0))):(W.setCell ⟨B,0,none⟩ v).heap[B]?=some (.cells #[v] t (0,0)):=by obtain ⟨hlt,hk⟩:=YaQ.1 h;show (W.heap.modify B _)[B]?=_;rw[YaD (by rw[Array.size_modify];exact hlt),Array.getElem_modify_self,hk];rfl
structure AtS (w:World) (s:ByteArray) (r rest:List UInt8) (lp:Loop) (W:World):Prop where
 below:Below w.heap.size w W
 c0:W.heap[w.heap.size]?=some (.cells #[.string s] 9 (0,0))
 c1:W.heap[w.heap.size+1]?=some (.cells #[.string (bs r)] 9 (0,0))
 c2:W.heap[w.heap.size+2]?=some (.cells #[.string (bs rest)] 9 (0,0))
 c3:W.heap[w.heap.size+3]?=some (.cells #[.string (bs [32])] 9 (0,0))
 c4:W.heap[w.heap.size+4]?=some (.cells #[.int .i64 0] 3 (0,0))
 dd:W.heap[w.heap.size+5]?=some (.deferred (some []))
 ll:W.heap[w.heap.size+6]?=some (.loop lp)
theorem AtS.loop {w:World} {s:ByteArray} {r rest:List UInt8} {lp:Loop} {W:World} (h:AtS w s r rest lp W) (lp':Loop):AtS w s r rest lp' (W.putObj (w.heap.size+6) (.loop lp')) :=
 have ne:∀k,k≠w.heap.size+6->(W.putObj (w.heap.size+6) (.loop lp')).heap[k]?=W.heap[k]?:=λk e=>World.putObj_heap_other e
 ⟨⟨h.below.os,h.below.tape,h.below.output,by simpa using h.below.size,λk hk=>(ne k (by omega)).trans (h.below.block k hk)⟩,(ne _ (by omega)).trans h.c0,(ne _ (by omega)).trans h.c1,(ne _ (by omega)).trans h.c2,(ne _ (by omega)).trans h.c3,(ne _ (by omega)).trans h.c4,(ne _ (by omega)).trans h.dd,World.putObj_heap_same (YaQ.1 h.ll).1⟩
theorem Zm3 {w W:World} (h:Below w.heap.size w W) {B:Nat} (hb:w.heap.size<=B) (v:Value):Below w.heap.size w (W.setCell ⟨B,0,none⟩ v) :=
 ⟨h.os,h.tape,h.output,by show w.heap.size<=(W.heap.modify _ _).size;rw[Array.size_modify];exact h.size,λk hk=>(Below.heap_setCell W ⟨B,0,none⟩ v k (by show k≠B;omega)).trans (h.block k hk)⟩
theorem AtS.answer {w:World} {s:ByteArray} {r rest:List UInt8} {lp:Loop} {W:World} (h:AtS w s r rest lp W) (r':List UInt8):AtS w s r' rest lp (W.setCell ⟨w.heap.size+1,0,none⟩ (.string (bs r'))) :=
 have ne:∀k,k≠w.heap.size+1->(W.setCell ⟨w.heap.size+1,0,none⟩ (.string (bs r'))).heap[k]?=W.heap[k]?:=λk e=>Below.heap_setCell W _ _ k e
 ⟨Zm3 h.below (by omega) _,(ne _ (by omega)).trans h.c0,Zp0 h.c1,(ne _ (by omega)).trans h.c2,(ne _ (by omega)).trans h.c3,(ne _ (by omega)).trans h.c4,(ne _ (by omega)).trans h.dd,(ne _ (by omega)).trans h.ll⟩
theorem AtS.rest {w:World} {s:ByteArray} {r rest:List UInt8} {lp:Loop} {W:World} (h:AtS w s r rest lp W) (rest':List UInt8):AtS w s r rest' lp (W.setCell ⟨w.heap.size+2,0,none⟩ (.string (bs rest'))) :=
 have ne:∀k,k≠w.heap.size+2->(W.setCell ⟨w.heap.size+2,0,none⟩ (.string (bs rest'))).heap[k]?=W.heap[k]?:=λk e=>Below.heap_setCell W _ _ k e
 ⟨Zm3 h.below (by omega) _,(ne _ (by omega)).trans h.c0,(ne _ (by omega)).trans h.c1,Zp0 h.c2,(ne _ (by omega)).trans h.c3,(ne _ (by omega)).trans h.c4,(ne _ (by omega)).trans h.dd,(ne _ (by omega)).trans h.ll⟩
def ZB7 (w:World) (s:ByteArray) (k:Nat) (lp:Loop):Exit->Act->World->Prop
 | .normal,_,W=>Lib.hasPrefix s.data.toList (ZdD k)=false/\AtS w s [] (ZcY k) lp W
 | .ret,_,W=>Lib.hasPrefix s.data.toList (ZdD k)=true/\AtS w s (ZdD k) (ZcY k) lp W
 | _,_,_=>False
def Zpg (s:ByteArray) (k:Nat):Prop:=∀j,j < k->Lib.hasPrefix s.data.toList (ZdD j)=false
theorem Zo8 {g:Operand} {ps:Array Tmp} {assign body:Code} {Q:Exit->Act->World->Prop} {a:Act} {w W0:World} {s:ByteArray}
  (hg:a.eval g=.func (.func 125) #[] #[.pointer (some ⟨w.heap.size+3,0,none⟩),.pointer (some ⟨w.heap.size+2,0,none⟩),.pointer (some ⟨w.heap.size+4,0,none⟩)])
  (hps:ps.size=1) (hz:W0.heap.size=w.heap.size+5) (hb:Below w.heap.size w W0)
  (c0:W0.heap[w.heap.size]?=some (.cells #[.string s] 9 (0,0))) (c1:W0.heap[w.heap.size+1]?=some (.cells #[.string (bs [])] 9 (0,0)))
  (c2:W0.heap[w.heap.size+2]?=some (.cells #[.string (bs (ZcY 0))] 9 (0,0))) (c3:W0.heap[w.heap.size+3]?=some (.cells #[.string (bs [32])] 9 (0,0)))
  (c4:W0.heap[w.heap.size+4]?=some (.cells #[.int .i64 0] 3 (0,0)))
  (hround:∀(l k:Nat) (W:World),k < 20->assign.wpIn (Fence.wide.inRound l) 2 Tryz.prog (Exit.then (λa₁ W₁=>W₁=W/\∀W' lp,AtS w s [] (ZcY k) lp W'->body.wpIn (Fence.wide.inRound l) 2 Tryz.prog (ZB7 w s k lp) a₁ W') (λ_ _ _=>False))
   { tmps:=(ps.zip #[.string (bs (ZdD k))]).foldl (λt (p,v)=>t.setIfInBounds p v) a.tmps,defers:=[] } W)
  (hdone:∀(lp:Loop) (W:World),AtS w s [] (ZcY 19) lp W->Zpg s 20->Q .normal { a with defers:={ target:=.collected (w.heap.size+5),args:=#[] } :: a.defers } W)
  (hstop:∀(k:Nat) (lp:Loop) (W:World),k < 20->AtS w s (ZdD k) (ZcY k) lp W->Zpg s k->Lib.hasPrefix s.data.toList (ZdD k)=true->Code.ret.wpIn Fence.wide 4 Tryz.prog Q { a with defers:={ target:=.collected (w.heap.size+5),args:=#[] } :: a.defers } W) :
  (Code.rangeFunc g ps assign body).wpIn Fence.wide 4 Tryz.prog Q a W0:=by
 refine wpIn_rangeFunc ?_;intro fn hfn;obtain ⟨rec,hrec⟩:∃rec:LoopState->Option Code->Loop,rec=λst pe=>{ state:=st,pending:=pe,fn,tmps:=a.tmps,params:=ps,assign,body,defers:=w.heap.size+5 }:=⟨_,rfl⟩;obtain ⟨W1,hW1⟩:∃W1,(W0.alloc (.deferred (some []))).alloc (.loop (rec .ready none))=W1:=⟨_,rfl⟩;have hA1:AtS w s [] (ZcY 0) (rec .ready none) W1:=by
  have up:∀k,k < w.heap.size+5->W1.heap[k]?=W0.heap[k]?:=λk hk=>by rw[<- hW1];exact (Below.heap_alloc _ _ _ (by rw[World.size_alloc,hz];omega)).trans (Below.heap_alloc _ _ _ (by omega))
  refine ⟨?_,(up _ (by omega)).trans c0,(up _ (by omega)).trans c1,(up _ (by omega)).trans c2,(up _ (by omega)).trans c3,(up _ (by omega)).trans c4,?_,?_⟩
  ·rw[<- hW1];exact (hb.alloc hb.size _).alloc (by rw[World.size_alloc];omega) _
  ·rw[<- hW1];refine (Below.heap_alloc _ _ _ (by rw[World.size_alloc];omega)).trans ?_;have:=World.alloc_heap_new W0 (.deferred (some []));rwa [hz] at this
  ·rw[<- hW1];have:=World.alloc_heap_new (W0.alloc (.deferred (some []))) (.loop (rec .ready none));rwa [World.size_alloc,hz] at this
 refine ⟨w.heap.size+6,[{ target:=.collected (w.heap.size+5),args:=#[] }],W1,{ target:=.fn (.func 125) #[.pointer (some ⟨w.heap.size+3,0,none⟩),.pointer (some ⟨w.heap.size+2,0,none⟩),.pointer (some ⟨w.heap.size+4,0,none⟩)],args:=#[.func (.yield (w.heap.size+6)) #[] #[]] },W1,125,
  #[.func (.yield (w.heap.size+6)) #[] #[],.pointer (some ⟨w.heap.size+3,0,none⟩),.pointer (some ⟨w.heap.size+2,0,none⟩),.pointer (some ⟨w.heap.size+4,0,none⟩)],W1,?_,?_,λ_ _=>trivial,?_,λh=>by omega,?_⟩
 ·have:=run_enterLoop_outer (P:=Tryz.prog) (w:=W0) fn a.tmps ps assign body;rw[hz] at this;rw[<- hW1,hrec];exact this
 ·simp only[resolve,hg];simp[go_sem]
 ·have e45:∀args w,(callFunc 125 args).run Tryz.prog w=.ok (.enter 125 args) w:=enters_of Tryz.func125 (by kernel_rfl) rfl;simp[invoke,go_sem,e45]
 ·refine (ZwF 3 (w.heap.size+6) (w.heap.size+2) (w.heap.size+3) (w.heap.size+4) (by omega)
   (λk W=>Zpg s k/\AtS w s [] (ZcY k) (rec .ready none) W) (λk W=>Zpg s (k+1)/\AtS w s [] (ZcY k) (rec .ready none) W)
   (λW=>∃k,k < 20/\Zpg s k/\Lib.hasPrefix s.data.toList (ZdD k)=true/\AtS w s (ZdD k) (ZcY k) (rec .done (some .ret)) W)
   (λk W _ h=>⟨(ZcX h.2.c3).1,(ZcX h.2.c2).1,(ZcX h.2.c2).2,(ZcX h.2.c4).1⟩)
   (λk W _ h=>⟨(ZcX h.2.c3).1,(ZcX h.2.c2).1,(ZcX h.2.c2).2⟩)
   (λk W _ h=>⟨h.1,h.2.rest _⟩) ?_ W1 ⟨λj hj=>by omega,hA1⟩).mono ?_
  ·rintro k W hk ⟨hn,hA⟩;have hy:=run_yield (P:=Tryz.prog) (args:=#[.string (bs (ZdD k))]) hA.ll (by rw[hrec];simp[hps]);have hl:=hA.ll;rw[hrec] at hy;refine ⟨fn,_,assign,body,hy,roundIn_of_wpIn hfn (wpIn_mono (hround _ k W hk) ?_)⟩;rintro e a1 W2 hp;cases e with
   | normal =>
    obtain ⟨rfl,hp⟩:=hp;refine ⟨_,run_beginRound hl (by rw[hrec]),wpIn_mono (hp _ _ (hA.loop _)) ?_⟩;rintro e a3 W3 hq;cases e with
    | normal =>
     obtain ⟨h1,h2⟩:=hq;have:=run_endRound (P:=Tryz.prog) none h2.ll;refine ⟨_,_,this,.inl ⟨rfl,λj hj=>?_,?_⟩⟩
     ·by_cases hjk:j < k
      ·exact hn j hjk
      ·obtain rfl:j=k:=by omega
       exact h1
     ·have:=h2.loop (rec .ready none);rw[hrec] at this ⊢;exact this
    | ret =>obtain ⟨h1,h2⟩:=hq;have:=run_endRound (P:=Tryz.prog) (some .ret) h2.ll;refine ⟨_,_,this,.inr ⟨rfl,k,hk,hn,h1,?_⟩⟩;have:=h2.loop (rec .done (some .ret));rw[hrec] at this ⊢;exact this
    | _=>exact hq.elim
   | _=>exact hp.elim
  ·rintro e W2 ⟨⟨v,rfl⟩,(⟨hn,hA⟩ | ⟨k,hk,hn,hp,hA⟩)⟩
   ·have:=run_endLoop (P:=Tryz.prog) hA.ll (by rw[hrec];simp);rw[show (rec .ready none).pending=none from by rw[hrec]] at this;exact ⟨none,_,this,hdone _ _ (hA.loop _) hn⟩
   ·have:=run_endLoop (P:=Tryz.prog) hA.ll (by rw[hrec];simp);rw[show (rec .done (some .ret)).pending=some .ret from by rw[hrec]] at this;exact ⟨some .ret,_,this,hstop k _ _ hk (hA.loop _) hn hp⟩
theorem AtS.out {w:World} {s:ByteArray} {r rest:List UInt8} {lp:Loop} {W:World} (h:AtS w s r rest lp W):(W.putObj (w.heap.size+5) (.deferred none)).cell? ⟨w.heap.size+1,0,none⟩=some (.string (bs r))/\Below w.heap.size w (W.putObj (w.heap.size+5) (.deferred none)) :=
 have ne:∀k,k≠w.heap.size+5->(W.putObj (w.heap.size+5) (.deferred none)).heap[k]?=W.heap[k]?:=λk e=>World.putObj_heap_other e
 ⟨(ZcX ((ne _ (by omega)).trans h.c1)).1,⟨h.below.os,h.below.tape,h.below.output,by simpa using h.below.size,λk hk=>(ne k (by omega)).trans (h.below.block k hk)⟩⟩
theorem ZuQ {p:List UInt8->Bool}:∀(l:List (List UInt8)) (k:Nat),k < l.length->(∀j,j < k->p (l.getD j [])=false)->p (l.getD k [])=true->l.find? p=some (l.getD k [])
 | [],k,h,_,_=>by simp at h
 | x :: l,0,_,_,hp=>by simp only[List.getD_cons_zero] at hp ⊢;simp[hp]
 | x :: l,k+1,h,hn,hp=>by
  have h0:p x=false:=by simpa using hn 0 (by omega)
  simp only[List.getD_cons_succ] at hp ⊢;rw[List.find?_cons_of_neg (by simp[h0])];exact ZuQ l k (by simpa using h) (λj hj=>by simpa using hn (j+1) (by omega)) hp
theorem ZuP {p:List UInt8->Bool}:∀(l:List (List UInt8)),(∀j,j < l.length->p (l.getD j [])=false)->l.find? p=none
 | [],_=>rfl
 | x :: l,hn=>by
  have h0:p x=false:=by simpa using hn 0 (by simp)
  rw[List.find?_cons_of_neg (by simp[h0])];exact ZuP l (λj hj=>by simpa using hn (j+1) (by simpa using hj))
theorem Ztr {s:ByteArray} {k:Nat} (hk:k < 20) (hn:Zpg s k) (hp:Lib.hasPrefix s.data.toList (ZdD k)=true):Zbj s.data.toList=ZdD k:=by unfold Zbj;rw[ZuQ Zeg k hk hn hp];rfl
theorem Zts {s:ByteArray} (hn:Zpg s 20):Zbj s.data.toList=[]:=by unfold Zbj;rw[ZuP Zeg hn];rfl
theorem ZBg (w:World) (o0 o1 o2 o3 o4:Obj):(((((w.alloc o0).alloc o1).alloc o2).alloc o3).alloc o4).heap[w.heap.size]?=some o0/\(((((w.alloc o0).alloc o1).alloc o2).alloc o3).alloc o4).heap[w.heap.size+1]?=some o1 /\
  (((((w.alloc o0).alloc o1).alloc o2).alloc o3).alloc o4).heap[w.heap.size+2]?=some o2/\(((((w.alloc o0).alloc o1).alloc o2).alloc o3).alloc o4).heap[w.heap.size+3]?=some o3/\(((((w.alloc o0).alloc o1).alloc o2).alloc o3).alloc o4).heap[w.heap.size+4]?=some o4:=by
 rw[show (((((w.alloc o0).alloc o1).alloc o2).alloc o3).alloc o4).heap=((((w.heap.push o0).push o1).push o2).push o3).push o4 from rfl];simp only[Array.getElem?_push,Array.size_push];refine ⟨?_,?_,?_,?_,?_⟩
 ·rw[if_neg (by omega),if_neg (by omega),if_neg (by omega),if_neg (by omega),if_pos trivial]
 ·rw[if_neg (by omega),if_neg (by omega),if_neg (by omega),if_pos trivial]
 ·rw[if_neg (by omega),if_neg (by omega),if_pos trivial]
 ·rw[if_neg (by omega),if_pos trivial]
 ·rw[if_pos trivial]
set_option maxRecDepth 100000 in
set_option maxHeartbeats 1000000 in
theorem Zv0 (s:ByteArray) (w:World):Calls Tryz.prog 46 #[.string s] w λe w'=>e=.returned (.string (bs (Zbj s.data.toList)))/\Below w.heap.size w w':=by
 refine (callsIn_wide (n:=4)).1 ?_;refine callsIn_of_wp_marks Tryz.func46 rfl trivial ?_ rfl;simp only[Tryz.ntmps46,List.size_toArray,List.length_cons,List.length_nil,Nat.reduceAdd,Nat.reduceSub,Array.replicate_succ,Array.replicate_zero,List.push_toArray,List.append_toArray,List.nil_append,List.cons_append]
 gi_wp2_with (refine ⟨trivial,?_⟩;gi_at_call 71;refine (callsIn_wide.2 (ZyL _ _ _)).mono ?_;rintro e w' ⟨rfl,rfl⟩)
 have hne:w.heap.size+5=w.heap.size+1+1+3:=rfl;refine Zo8 (w:=w) (s:=s) rfl rfl (by simp[World.size_alloc]) ?_ ?_ ?_ ?_ ?_ ?_ ?round ?done ?stop
 ·exact ((((Below.refl w.heap.size w).alloc (Yas _) _).alloc (by simp) _).alloc (by simp;omega) _ |>.alloc (by simp;omega) _).alloc (by simp;omega) _
 ·exact (ZBg _ _ _ _ _ _).1
 ·exact (ZBg _ _ _ _ _ _).2.1
 ·exact (ZBg _ _ _ _ _ _).2.2.1
 ·exact (ZBg _ _ _ _ _ _).2.2.2.1
 ·exact (ZBg _ _ _ _ _ _).2.2.2.2
 case round =>
  intro l k W hk
  gi_wp2
  intro W' lp hA;obtain ⟨d0,_⟩:=ZcX hA.c0;obtain ⟨d1,df⟩:=ZcX hA.c1
  gi_wp2_with (refine ⟨trivial,?_⟩;gi_at_call 72;refine (CallsIn.inRound l (callsIn_wide.2 (Any.strings_HasPrefix Zr9 _ _ _))).mono ?_;rintro e w' ⟨rfl,rfl⟩)
  ·rename_i hx;exact ⟨hx,hA.answer _⟩
  ·rename_i hx;exact ⟨hx,hA⟩
 case done =>
  intro lp W hA hn;obtain ⟨d1,df⟩:=ZcX hA.c1
  gi_wp2
  have hA':=hA.answer [];refine ⟨by simp,.inl ⟨_,_,rfl,run_takeDeferred hA'.dd,?_⟩⟩;obtain ⟨d2,hb⟩:=hA'.out;rw[Zts hn];refine ⟨.string (bs []),?_,rfl,hb⟩;simp[results,Tryz.f46,go_sem,d2]
 case stop =>
  intro k lp W hk hA hn hp
  gi_wp2
  refine ⟨by simp,.inl ⟨_,_,rfl,run_takeDeferred hA.dd,?_⟩⟩;obtain ⟨d2,hb⟩:=hA.out;rw[Ztr hk hn hp];refine ⟨.string (bs (ZdD k)),?_,rfl,hb⟩;simp[results,Tryz.f46,go_sem,d2]
end ZN
namespace Go.Dm
open Go Go.Eng Go.RowKit
theorem Zhs {P:Program} {G:Gl} {g:FuncId} {ds:List D} {d:D}
  (h:∀(w:World) (V:Nat->Prop) (vals:List Value),Zis G V w->Zaa [] (λ_=>undef) V w ds vals->Calls P g ⟨vals⟩ w λe w'=>∃v,e=.returned v/\Below w.heap.size w w'/\Zab [] (λ_=>undef) V w' d v):CT P G g ds (Is d):=by intro w V vals hV hG hr;refine (h w V vals hG hr).mono λe w' ⟨v,he,hb,hd⟩=>?_;subst he;have hm:ZaI V w V w':=λk hk=>⟨hk,hb.block k (hV k hk)⟩;refine ⟨d,[],λ_=>undef,V,rfl,⟨λi o hi=>by simp at hi,λi j o o' k hi=>by simp at hi,λi o k hi=>by simp at hi,λi o k hi=>by simp at hi,λk hk=>YaX (hV k hk) hb.size,λk hk=>hk,λk hk=>.inl hk,Fr.of_below hb,hG.move hm⟩,hd⟩
end Go.Dm
namespace ZN
open Go Go.Dm Go.Eng Go.RowKit Go.ChangeShapes Go.WideShapes Go.ChangeAt Barb
variable {L:Lv}
theorem Zlz : Tryz.prog.globalNamed "strconv.ErrSyntax" = some 5 := by kernel_rfl
theorem Zys:(Tryz.prog.globals[5]?).map (·.type)=some 63:=by kernel_rfl
theorem ZlI : Tryz.prog.globalNamed "strconv.ErrRange" = some 6 := by kernel_rfl
theorem Zy1:(Tryz.prog.globals[6]?).map (·.type)=some 63:=by kernel_rfl
theorem Zyq:(Tryz.prog.globals[2]?).map (·.type)=some 202:=by kernel_rfl
theorem Zq2:Tryz.prog.cellsOf 244=1:=by kernel_rfl
theorem strCells:Tryz.prog.cellsOf 9=1:=by kernel_rfl
theorem ZvI:Tryz.prog.cellsOf 178=1:=by kernel_rfl
theorem ZvQ:Tryz.prog.cellsOf 202=20:=by kernel_rfl
theorem ZxG {w:World} {V:Nat->Prop} {b:Nat}:∀(l:List Value) (i:Nat),Zav V w ⟨b,0,none⟩ i (l.map .raw)->∀(j:Nat) (v:Value),l[j]?=some v->w.cell? ⟨b,i+j,none⟩=some v
 | [],_,_,j,v,hj=>by simp at hj
 | u :: l,i,h,j,v,hj=>by
  simp only[Yan,Zav] at h;obtain ⟨⟨u',hc,hu⟩,hr⟩:=h;simp only[ZaS] at hu;cases j with
  | zero =>simp only[List.getElem?_cons_zero,Ybg] at hj;subst hj;rw[Zb8,YaA] at hc;rw[Nat.add_zero,hc,hu.1]
  | succ j =>have:=ZxG l (i+1) hr j v (by simpa using hj);rw[show i+(j+1)=i+1+j from by omega];exact this
theorem Zs7 {w:World} {V:Nat->Prop} {n:String} {b:Nat} (hn:Tryz.prog.globalNamed n=some b) (u:Value) (l:List Value) (h:Zav V w ⟨b,0,none⟩ 0 ((u :: l).map .raw)/\whole w b ((u :: l).map .raw)):w.var? Tryz.prog n=some (u :: l).toArray:=by
 obtain ⟨hr,cs,t,x,hh,hs⟩:=h;have hs:cs.size=(u :: l).length:=by simpa using hs
 unfold World.var?;simp only[hn,Option.bind_some,hh];refine congrArg some (Ycf (Ybx λj=>?_));by_cases hj:j < (u :: l).length
 ·have:=ZxG (u :: l) 0 hr j _ (Yak hj);rw[YaA] at this;simp only[World.cell?,hh] at this;rw[Yak hj,<- this];simp
 ·rw[Ya9 (show (u :: l).length<=j by omega),Ya9 (show cs.toList.length<=j by rw[Array.length_toList];omega)]
theorem Znz {L:Lv} {V:Nat->Prop} {w:World} (hG:Zis (gl L) V w):LibOk w:=by
 obtain ⟨_,h0⟩:=hG (5,[.raw (.iface L.t0 L.p0)]) (by simp);obtain ⟨_,h1⟩:=hG (6,[.raw (.iface L.t1 L.p1)]) (by simp);obtain ⟨_,h2⟩:=hG (2,Lib.pow10Tab.map λz=>.raw (.int .u64 z)) (by simp);have a0:=World.var?_cell Zlz (Zs7 Zlz _ [] h0) 0;have a1:=World.var?_cell ZlI (Zs7 ZlI _ [] h1) 0;refine ⟨⟨_,_,by simpa using a0⟩,⟨_,_,by simpa using a1⟩,?_⟩;have e0:Lib.pow10Tab=1 :: Lib.pow10Tab.drop 1:=by decide
 have e:Lib.pow10Tab.map (λz=>GV.raw (.int .u64 z))=((Value.int .u64 1) :: (Lib.pow10Tab.drop 1).map (Value.int .u64)).map GV.raw:=by
  conv=>lhs;rw[e0]
  rw[Yan,Yan,YbL];rfl
 rw[e] at h2;have a2:=Zs7 Zf4 _ _ h2;unfold Lib.TabIs;rw[a2];refine congrArg (λl=>some (List.toArray l)) ?_
 conv=>rhs;rw[e0]
 rfl
theorem ZCk {W : World} {L : Lv} (h0 : W.var? Tryz.prog "strconv.ErrSyntax" = some #[.iface L.t0 L.p0]) (h1 : W.var? Tryz.prog "strconv.ErrRange" = some #[.iface L.t1 L.p1]) (h2 : Lib.TabIs Tryz.prog W "internal/strconv.uint64pow10" .u64 Lib.pow10Tab) : Zis (ZCd L) (fun k => k < W.heap.size) W := by
 have key:∀(n:String) (b:Nat) (us:List Value),Tryz.prog.globalNamed n=some b->W.var? Tryz.prog n=some us.toArray->us≠[]->(∀u∈us,u.oneCell'=true/\ZaG u=[u])->b < W.heap.size/\Zav (λk=>k < W.heap.size) W ⟨b,0,none⟩ 0 (us.map .raw)/\whole W b (us.map .raw):=by
  intro n b us hn hv hne hu;have hc:∀j,W.cell? ⟨b,j,none⟩=us[j]?:=λj=>by rw[World.var?_cell hn hv j];simp
  have row:∀(m:List Value) (i:Nat),(∀u∈m,u.oneCell'=true/\ZaG u=[u])->(∀(k:Nat) (u:Value),m[k]?=some u->us[i+k]?=some u)->Zav (λk=>k < W.heap.size) W ⟨b,0,none⟩ i (m.map .raw):=by
   intro m
   induction m with
   | nil=>intro i _ _;simp[Zav]
   | cons u m ih =>
    intro i hm hl;simp only[Yan,Zav];refine ⟨⟨u,?_,?_⟩,ih (i+1) (λv hv=>hm v (Yad _ hv)) (λk v hk=>by rw[show i+1+k=i+(k+1) from by omega];exact hl (k+1) v (by simpa using hk))⟩
    ·rw[Zb8];simpa using (hc i).trans (by simpa using hl 0 u rfl)
    ·simp only[ZaS,true_and];exact hm u Yae
  unfold World.var? at hv;simp only[hn,Option.bind_some] at hv;cases hh:W.heap[b]? with
  | none=>rw[hh] at hv;cases hv
  | some o =>
   rw[hh] at hv;cases o<;>simp only[reduceCtorEq,Ybg] at hv;subst hv;refine ⟨(YaQ.1 hh).1,row us 0 hu (λk u hk=>by simpa using hk),?_⟩;cases us with
   | nil=>exact absurd rfl hne
   | cons u us=>exact ⟨_,_,_,hh,by simp⟩
 intro p hp;simp only[Yav,Ya4,or_false] at hp;rcases hp with rfl | rfl | rfl
 ·exact key _ _ [.iface L.t0 L.p0] Zlz h0 (by simp) (by simp[Value.oneCell',ZaG])
 ·exact key _ _ [.iface L.t1 L.p1] ZlI h1 (by simp) (by simp[Value.oneCell',ZaG])
 ·have e:Lib.pow10Tab.map (λz=>GV.raw (.int .u64 z))=(Lib.pow10Tab.map (Value.int .u64)).map GV.raw:=by rw[YbL];rfl
  show _/\Zav _ _ _ _ (Lib.pow10Tab.map (λz=>GV.raw (.int .u64 z)))/\whole _ _ (Lib.pow10Tab.map (λz=>GV.raw (.int .u64 z)));rw[e];exact key _ _ _ Zf4 h2 (by decide) (λu hu=>by obtain ⟨z,_,rfl⟩:=YaU.1 hu;exact ⟨rfl,rfl⟩)
theorem ZuV (u : TypeId) (h : Tryz.prog.typeName? 3 u = some "*errors.errorString") : u = 242 :=
 typeName_ptr_named (nm := "errors.errorString") (by rw [show "*" ++ "errors.errorString" = "*errors.errorString" from by decide]; kernel_rfl) (by kernel_rfl) (by decide) u (by rw [show "*" ++ "errors.errorString" = "*errors.errorString" from by decide]; exact h)
theorem Zzo {W : World} {x : String × DataW _root_.Unit} {r : List (String × DataW _root_.Unit)} (h : laidMet Tryz.prog (("internal/strconv.uint64pow10", Lib.tabData .u64 Lib.pow10Tab) :: x :: ("strconv.ErrRange", Rows.laid_strconv_ErrRange) :: ("strconv.ErrSyntax", Rows.laid_strconv_ErrSyntax) :: r) W) : ∃ L, Zis (ZCd L) (fun k => k < W.heap.size) W := by
 obtain ⟨a0,s0,hv0,-,-,-⟩:=laid_sentinel h.tail.tail ZlI Zy1 Tryz.underlying63 ZuV Tryz.underlying242 Tryz.underlying244 rfl rfl Tryz.underlying9 Zq2 strCells;obtain ⟨a1,s1,hv1,-,-,-⟩:=laid_sentinel h.tail.tail.tail Zlz Zys Tryz.underlying63 ZuV Tryz.underlying242 Tryz.underlying244 rfl rfl Tryz.underlying9 Zq2 strCells;exact ⟨⟨_,_,_,_⟩,ZCk hv1 hv0 (Lib.tabIs_of_head Zf4 Zyq Tryz.underlying202 Tryz.underlying178 ZvI ZvQ h)⟩
theorem ZCP {V:Nat->Prop} {w:World} {s:List UInt8} {vals:List Value} (h:Zaa [] (λ_=>undef) V w [.g (.str s)] vals):vals=[.string ⟨⟨s⟩⟩]:=by simp only[Zaa] at h;obtain ⟨v,us,rfl,hv,rfl⟩:=h;simp only[Zab,ZaS] at hv;rw[hv]
theorem Zlm (s:List UInt8) (hs:s.length<=140737488351232):CT Tryz.prog (gl L) 45 [.g (.str s)] (Is (.tuple [.g (.int (Zt9 s)),.g (.bool (Zua s))])):=by refine Zhs λw V vals hG hr=>?_;rw[ZCP hr];refine (ZrY ⟨⟨s⟩⟩ hs w (Znz hG)).mono λe w' ⟨he,hb⟩=>⟨_,he,hb,?_⟩;simp only[Zab,Zaa,ZaS];exact ⟨_,rfl,_,_,rfl,rfl,_,_,rfl,rfl,rfl⟩
theorem Zv2 (s:List UInt8):CT Tryz.prog (gl L) 46 [.g (.str s)] (Is (.g (.str (Zbj s)))):=by refine Zhs λw V vals hG hr=>?_;rw[ZCP hr];refine (Zv0 ⟨⟨s⟩⟩ w).mono λe w' ⟨he,hb⟩=>⟨_,he,hb,?_⟩;simp only[Zab,ZaS]
end ZN

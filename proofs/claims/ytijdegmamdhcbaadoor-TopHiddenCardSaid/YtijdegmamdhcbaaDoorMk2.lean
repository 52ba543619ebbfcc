/-
  mach: the top frame of a machine, read.
-/
import Derived.Test.YtijdegmamdhcbaaDoorGh
import Derived.Test.YtijdegmamdhcbaaDoorDlib
import Derived.Test.YtijdegmamdhcbaaDoorDseat
import Derived.Test.YtijdegmamdhcbaaDoorWd
import Derived.WalkKit
import Derived.BigCall
import Derived.RegionTactic
import Derived.Test.YtijdegmamdhcbaaDoorMc
import Derived.Test.YtijdegmamdhcbaaDoorCl
import Derived.Test.YtijdegmamdhcbaaDoorMo
namespace Go.Dm
open Go Go.Eng Go.RowKit
theorem keep_fr {C:Ctx} {h:Heap} {β:Nat→Value} {V:Nat→Prop} {w w':World} (hr:RelD C h β V w) (hf:Fr (fun _=>False) w w'):RelD C h β V w'∧Moved V w V w':=by
 have hm:Moved V w V w':=fun k hk=>⟨hk,hf.block k (hr.vlt k hk) (fun h=>h)⟩
 refine ⟨⟨fun i o hi=>?_,hr.sep,hr.mine,hr.vout,fun k hk=>Nat.lt_of_lt_of_le (hr.vlt k hk) hf.size,hr.vin,hr.vnew,?_,hr.gl.move hm⟩,hm⟩
 ·cases hlv:o.live with
  | false=>cases o<;>simp_all [Obj.live,ObjOk]
  | true=>exact (hr.obj i o hi).keep (LeH.refl h β) hm rfl (fun k hk=>hf.block k (hr.lt hi hlv hk) (fun h=>h))
 ·refine ⟨hf.os.trans hr.fr.os,hf.tape.trans hr.fr.tape,hf.output.trans hr.fr.output,Nat.le_trans hr.fr.size hf.size,fun k hk hn=>?_⟩
  rw[hf.block k (Nat.lt_of_lt_of_le hk hr.fr.size) (fun h=>h)]
  exact hr.fr.block k hk hn
end Go.Dm
namespace Go.Proofs.YtijdegmamdhcbaaDoor
open Go Go.Dm Go.Eng Go.RowKit

theorem top_raw (w:World) (g g2 n cap:Nat) (hn:n < 1000000) (hc:w.cell? ⟨g,6,none⟩=some (.slice (some ⟨g2,0,none⟩) (n+1) cap)) :
  Calls Tryd.prog 64 #[.pointer (some ⟨g,0,none⟩)] w fun e w'=>e=.returned (.pointer (some ⟨g2,n*12,none⟩))∧Fr (fun _=>False) w w':=by
 go_enter Tryd.func64,Tryd.ntmps64
 go_wp2
 go_region
 go_wp2
 go_ret
 exact ⟨rfl,rfl,rfl,rfl,Nat.le_refl _,fun _ _ _=>rfl⟩
theorem top_rd {h:Heap} {j k n:Nat} {cs:List D} {t e:TypeId} {xs:List (List GV)} (hj:h[j]?=some (.blk cs t)) (hc:cs[6]?=some (.row k)) (hk:h[k]?=some (.row xs e 12)) (hx:xs.length=n+1) (hn:n < 1000000) :
  CTR Tryd.prog gl 64 [.ptr j 0] h (.el k n 0):=by
 intro C w β V vals _ hr hd
 simp only[RepDL] at hd
 obtain ⟨v,us,rfl,h1,rfl⟩:=hd
 simp only[RepD,hj] at h1
 obtain ⟨g,hb,rfl⟩:=h1
 obtain ⟨g',vs,hb',hg,hcs⟩:=hr.obj j _ hj
 have eg:g'=g:=by rw[hb] at hb';injection hb' with hb';injection hb' with hb';injection hb' with hb';exact hb'.symm
 subst eg
 obtain ⟨v6,hv6,hr6⟩:=hcs.get hc
 simp only[RepD,hk] at hr6
 obtain ⟨us,hown,_⟩:=hr.obj k _ hk
 rcases hown.2 with ⟨_,h0⟩ | ⟨g2,cap,cur,hbk,_⟩
 ·omega
 have hcell:w.cell? ⟨g',6,none⟩=some (.slice (some ⟨g2,0,none⟩) (n+1) cap):=by
  rw[cell_of_row w _ _ _ _ _ hg,← hx,← hbk,← hr6]
  simpa using hv6
 refine (top_raw w g' g2 n cap hn hcell).mono fun e w' he=>?_
 obtain ⟨rfl,hf⟩:=he
 obtain ⟨q1,q2⟩:=keep_fr hr hf
 refine ⟨q1,?_,q2⟩
 simp only[RepD,hk]
 exact ⟨by omega,g2,_,_,hbk,rfl⟩
end Go.Proofs.YtijdegmamdhcbaaDoor
/-
  mach: a machine's state, plain; and how it lies in memory.
-/
namespace Barb
open Go Go.Dm Go.Eng
structure Nt where
 by_:Int
 part:Int
 entry:Int
 args:List Int
 deep:Int
 done:Bool
 value:Int
def Nt.g (n:Nt):List GV:=[.int n.by_,.int n.part,.int n.entry,.sl 1 (n.args.map intG),.int n.deep,.bool n.done,.int n.value]
structure PF where
 part:Int
 at_:Int
 locs:List Int
 ws:List Int
 noted:Int
structure Fr where
 f:PF
 v:Value
structure MO where
 told:List Int
 data:List Int
 calls:List Nt
def Fr.g (x:Fr):List GV:=.int x.f.part :: .int x.f.at_ :: (x.f.locs.map .int++[.raw x.v,.int x.f.noted])
def Fr.z (t:Nat) (x:Fr):Value × Ob0:=(x.v,.row (x.f.ws.map intG) t 1)
def Fr.ww (x:Fr) (ws:List Int) (v:Value):Fr:=⟨{ x.f with ws:=ws },v⟩
def Fr.ok (x:Fr):Prop:=x.f.locs.length=8∧x.f.ws.length≤40
theorem Fr.g_at {x:Fr} (_hx:x.f.locs.length=8) {i:Nat} {n:Int} (hi:x.f.locs[i]?=some n):x.g[2+i]?=some (.int n):=by
 have hl:i < x.f.locs.length:=(List.getElem?_eq_some_iff.1 hi).1
 unfold Fr.g
 rw[show 2+i=i+1+1 from by omega,List.getElem?_cons_succ,List.getElem?_cons_succ,List.getElem?_append_left (by simpa using hl)]
 simp[hi]
theorem Fr.g_words {x:Fr} (hx:x.f.locs.length=8):x.g[10]?=some (.raw x.v):=by
 unfold Fr.g
 rw[List.getElem?_cons_succ,List.getElem?_cons_succ,List.getElem?_append_right (by simp[hx])]
 simp[hx]
theorem Fr.g_noted {x:Fr} (hx:x.f.locs.length=8):x.g[11]?=some (.int x.f.noted):=by
 unfold Fr.g
 rw[List.getElem?_cons_succ,List.getElem?_cons_succ,List.getElem?_append_right (by simp[hx])]
 simp[hx]
theorem Fr.g_len {x:Fr} (hx:x.f.locs.length=8):x.g.length=12:=by simp[Fr.g,hx]
theorem Fr.g_set_words {x:Fr} (hx:x.f.locs.length=8) (ws:List Int) (v:Value):setL x.g 10 [.raw v]=(x.ww ws v).g:=by
 simp only[setL,Fr.ww,Fr.g,List.set_cons_succ]
 rw[List.set_append_right _ _ (by simp[hx])]
 simp[hx]
theorem Fr.g_set_at {x:Fr} (n:Int):setL x.g 1 [.int n]=(Fr.mk { x.f with at_:=n } x.v).g:=rfl
theorem Fr.g_set_loc {x:Fr} (hx:x.f.locs.length=8) {i:Nat} (hi:i < 8) (n:Int):setL x.g (2+i) [.int n]=(Fr.mk { x.f with locs:=x.f.locs.set i n } x.v).g:=by
 simp only[setL,Fr.g]
 rw[show 2+i=i+1+1 from by omega,List.set_cons_succ,List.set_cons_succ,List.set_append_left _ _ (by simp[hx];exact hi),List.map_set]
theorem snoc_set {α β:Type} (f:α→β) (pre:List α) (t:α) (y:β) (t':α) (h:f t'=y):((pre++[t]).map f).set pre.length y=(pre++[t']).map f:=by
 subst h
 simp
theorem snoc_at {α β:Type} (f:α→β) (pre:List α) (t:α):((pre++[t]).map f)[pre.length]?=some (f t):=by simp
structure Ns where
 d:Value
 t:Value
 c:Value
 f:Value
abbrev Ns.withF (N:Ns) (f:Value):Ns:=⟨N.d,N.t,N.c,f⟩
end Barb
namespace Go.Proofs.YtijdegmamdhcbaaDoor
open Go Go.Dm Go.Eng Go.RowKit Barb
abbrev fz:Fr→Value × Ob0:=Fr.z 3
abbrev MT (N:Ns):List (Value × Nat):=[(N.d,2),(N.t,3),(N.c,4),(N.f,5)]
abbrev MH (m:Image) (e val:Int) (o:MO) (fs:List Fr) (N:Ns):Heap :=
 [.blk [.g (.sl 4 (m.map Part.g)),.g (.int e),.g (.int val),.row 3,.row 2,.row 4,.row 5] 107,.many (fs.map fz) (MT N),.row (o.data.map intG) 3 1,.row (o.told.map intG) 3 1,.row (o.calls.map Nt.g) 42 7,
  .row (fs.map Fr.g) 143 12]
abbrev ns5 (N:Ns):List (Option Value):=[none,some N.d,some N.t,some N.c,some N.f]
theorem tg5 (m:Image) (e val:Int) (o:MO) (fs:List Fr) (N:Ns):tagsN (MH m e val o fs N) 1 1 (ns5 N) :=
 ⟨trivial,List.mem_cons_self,List.mem_cons_of_mem _ List.mem_cons_self,List.mem_cons_of_mem _ (List.mem_cons_of_mem _ List.mem_cons_self),List.mem_cons_of_mem _ (List.mem_cons_of_mem _ (List.mem_cons_of_mem _ List.mem_cons_self)),trivial⟩
theorem st5 {m:Image} {e val e' val':Int} {o o':MO} {fs fs':List Fr} {N:Ns} (h1:o.data.length=o'.data.length) (h2:o.told.length=o'.told.length) (h3:o.calls.length=o'.calls.length) (h4:fs.length=fs'.length):stayN (MH m e val o fs N) (MH m e' val' o' fs' N) 1 1 (ns5 N) :=
 ⟨trivial,List.mem_cons_self,⟨⟨by simpa using h1,rfl⟩,rfl⟩,List.mem_cons_of_mem _ List.mem_cons_self,⟨⟨by simpa using h2,rfl⟩,rfl⟩,List.mem_cons_of_mem _ (List.mem_cons_of_mem _ List.mem_cons_self),⟨⟨by simpa using h3,rfl⟩,rfl⟩,
  List.mem_cons_of_mem _ (List.mem_cons_of_mem _ (List.mem_cons_of_mem _ List.mem_cons_self)),⟨⟨by simpa using h4,rfl⟩,rfl⟩,trivial⟩
abbrev ns4 (N:Ns):List (Option Value):=[none,some N.d,some N.t,some N.c]
theorem tg4 (m:Image) (e val:Int) (o:MO) (fs:List Fr) (N:Ns):tagsN (MH m e val o fs N) 1 1 (ns4 N) :=
 ⟨trivial,List.mem_cons_self,List.mem_cons_of_mem _ List.mem_cons_self,List.mem_cons_of_mem _ (List.mem_cons_of_mem _ List.mem_cons_self),trivial⟩
theorem st4 {m:Image} {e val e' val':Int} {o o':MO} {fs fs':List Fr} {N:Ns} {f:Value} (h1:o.data.length=o'.data.length) (h2:o.told.length=o'.told.length) (h3:o.calls.length=o'.calls.length):stayN (MH m e val o fs N) (MH m e' val' o' fs' (N.withF f)) 1 1 (ns4 N) :=
 ⟨trivial,List.mem_cons_self,⟨⟨by simpa using h1,rfl⟩,rfl⟩,List.mem_cons_of_mem _ List.mem_cons_self,⟨⟨by simpa using h2,rfl⟩,rfl⟩,List.mem_cons_of_mem _ (List.mem_cons_of_mem _ List.mem_cons_self),⟨⟨by simpa using h3,rfl⟩,rfl⟩,trivial⟩
theorem endMH {R:D→Heap→Prop} {env:Dm.Env} {m:Image} {e val:Int} {o:MO} {fs:List Fr} {N:Ns} {h hin:Heap} {ns:List (Option Value)} {xs:List (List GV)} {l:List (Value × Ob0)} {told data calls:List (List GV)} {d0:D} (d:D) (src:List Src) (hok:srcOk src=true) (hlen:nrOk src (MH m e val o fs N)=true)
  (h0:conv h src 4 (env 0)=.ptr 0 0) (hd:conv h src 4 d0=d∨Like (newN src) 4 (conv h src 4 d0) d)
  (hT:turnH h src=[.blk [.g (.sl 4 (m.map Part.g)),.g (.int e),.g (.int val),.row 3,.row 2,.row 4,.row 5] 107,.many l (MT N),.row data 3 1,.row told 3 1,.row calls 42 7,.row xs 143 12])
  (e1:data=o.data.map intG) (e2:told=o.told.map intG) (e3:calls=o.calls.map Nt.g) (e4:xs=fs.map Fr.g) (e5:l.Perm (fs.map fz)) (hst:stayN hin (MH m e val o fs N) 1 1 ns) (q:R d (MH m e val o fs N)):ToH [0] hin 1 ns R h env d0:=by
 subst e1;subst e2;subst e3;subst e4
 refine ⟨src,d,MH m e val o fs N,⟨hok,.inr ?_,.inr ?_,hlen⟩,rfl,hst,q⟩
 ·rw[hT]
  exact ⟨⟨rfl,.inl rfl⟩,⟨e5,rfl⟩,⟨rfl,rfl,rfl⟩,⟨rfl,rfl,rfl⟩,⟨rfl,rfl,rfl⟩,⟨rfl,rfl,rfl⟩,trivial⟩
 ·rw[List.map_cons,List.map_cons,List.map_cons,h0]
  exact ⟨by rcases hd with hd | hd;exact lk hd;exact hd,lk rfl,trivial⟩
abbrev olds (a b c d e f:Nat):List Src:=[.old a,.old b,.old c,.old d,.old e,.old f]
end Go.Proofs.YtijdegmamdhcbaaDoor
/-
  mach: words are put on and taken off the top frame.
-/
namespace Go.Proofs.YtijdegmamdhcbaaDoor
open Go Go.Dm Go.Eng Go.RowKit Barb

theorem top_fn:fnOk Tryd.prog 64=true:=by kernel_rfl
theorem snoc_len {α:Type} (l:List α) (x y:α):(l++[x]).length=(l++[y]).length:=by simp
def pushQ (m:Image) (e val:Int) (o:MO) (pre:List Fr) (t:Fr) (N:Ns) (n:Int):Out→Prop:=fun out=>if t.f.ws.length=40 then out=.ret (.g (.bool false)) (MH m e val o (pre++[t]) N) else
 ∃ v',out=.ret (.g (.bool true)) (MH m e val o (pre++[t.ww (t.f.ws++[n]) v']) N)
theorem push_any (m:Image) (e val:Int) (o:MO) (pre:List Fr) (t:Fr) (N:Ns) (n:Int) (ht:t.ok) (hp:pre.length < 1000) :
  CTH Tryd.prog gl 92 6 (MH m e val o (pre++[t]) N) [.ptr 0 0,.g (.int n)] (pushQ m e val o pre t N n):=by
 refine enterH [] hT hF hM Tryd.func92 rfl 24 rfl (by kernel_rfl) [.tmp 4] rfl [.ptr 0 0,.g (.int n)] rfl (MH m e val o (pre++[t]) N) [0] rfl rfl rfl 1 (ns5 N) (tg5 _ _ _ _ _ _) _ ?_
 refine ⟨top_fn,.inr (semRd (top_rd rfl rfl rfl (n:=pre.length) (by simp) (by omega)) ?_)⟩
 refine ⟨_,snoc_at Fr.g pre t,ldG_at rfl (Fr.g_words ht.1) ?_⟩
 refine .inr (ghLend 1 (pre.map fz) [] (.row (t.f.ws.map intG) 3 1) rfl (by rw[List.map_append];rfl) (ghNo ?_))
 have hw:=ht.2
 have hwl:(t.f.ws.map intG).length=t.f.ws.length:=List.length_map _
 refine ⟨fun h=>?_,fun h=>?_⟩
 ·refine ⟨rfl,.inr (ghHide 1 6 t.v (.row (t.f.ws.map intG) 3 1) rfl (.head _) rfl ⟨rfl,rfl,rfl⟩ (ghNo (endMH (.g (.bool false)) (olds 0 1 2 3 4 5) rfl rfl rfl (.inl rfl) rfl rfl rfl rfl rfl ?_ (st5 rfl rfl rfl rfl) ?_)))⟩
  ·simp[fz,Fr.z]
  ·unfold pushQ;rw[if_pos (by omega)]
 ·refine ⟨_,snoc_at Fr.g pre t,ldG_at rfl (Fr.g_words ht.1) (.inr (ghTag 1 6 rfl (.head _) rfl (ghNo ?_)))⟩
  refine ⟨[[.int n]],rfl,rfl,⟨rfl,trivial⟩,?_⟩
  refine ⟨⟨by simp[maxLen];omega,by simp;omega⟩,?_⟩
  refine .inr (ghName 1 8 rfl rfl (fun v'=>ghNo ?_))
  refine ⟨_,[.raw v'],snoc_at Fr.g pre t,⟨rfl,trivial⟩,by rw[Fr.g_len ht.1];decide,(fun h=>by cases h),.inl ?_⟩
  refine ⟨rfl,.inr (ghHide 1 8 v' (.row ((t.f.ws++[n]).map intG) 3 1) rfl (.head _) rfl ⟨by simp[intG],rfl,rfl⟩ (ghNo (endMH (fs:=pre++[t.ww (t.f.ws++[n]) v']) (.g (.bool true)) (olds 0 1 2 3 4 5) rfl rfl rfl (.inl rfl) rfl rfl rfl rfl (snoc_set Fr.g pre t _ _ (Fr.g_set_words ht.1 _ _).symm) ?_ (st5 rfl rfl rfl (snoc_len _ _ _)) ?_)))⟩
  ·simp[fz,Fr.z,Fr.ww]
  ·unfold pushQ;rw[if_neg (by omega)]
   exact ⟨v',rfl⟩

def popQ (m:Image) (e val:Int) (o:MO) (pre:List Fr) (t:Fr) (N:Ns) (n:Nat):Out→Prop:=fun out =>
 if t.f.ws.length < n then out=.ret (.tuple [.nils,.g (.bool false)]) (MH m e val o (pre++[t]) N) else
  ∃ v',out=.ret (.tuple [.g (.sl 1 ((t.f.ws.drop (t.f.ws.length - n)).map intG)),.g (.bool true)]) (MH m e val o (pre++[t.ww (t.f.ws.take (t.f.ws.length - n)) v']) N)
theorem pop_any (m:Image) (e val:Int) (o:MO) (pre:List Fr) (t:Fr) (N:Ns) (n:Nat) (ht:t.ok) (hp:pre.length < 1000) (hn:n < 1000) :
  CTH Tryd.prog gl 90 6 (MH m e val o (pre++[t]) N) [.ptr 0 0,.g (.int (n:Int))] (popQ m e val o pre t N n):=by
 refine enterH [] hT hF hM Tryd.func90 rfl 37 rfl (by kernel_rfl) [.tmp 4,.tmp 5] rfl [.ptr 0 0,.g (.int (n:Int))] rfl (MH m e val o (pre++[t]) N) [0] rfl rfl rfl 1 (ns5 N) (tg5 _ _ _ _ _ _) _ ?_
 have hw:=ht.2
 have hwl:(t.f.ws.map intG).length=t.f.ws.length:=List.length_map _
 refine ⟨top_fn,.inr (semRd (top_rd rfl rfl rfl (n:=pre.length) (by simp) (by omega)) ?_)⟩
 refine ⟨_,snoc_at Fr.g pre t,ldG_at rfl (Fr.g_words ht.1) ?_⟩
 refine .inr (ghLend 1 (pre.map fz) [] (.row (t.f.ws.map intG) 3 1) rfl (by rw[List.map_append];rfl) (ghNo ?_))
 refine ⟨by unfold I64;omega,?_⟩
 refine ⟨fun h=>?_,fun h=>?_⟩
 ·refine ⟨rfl,.inr (ghHide 1 6 t.v (.row (t.f.ws.map intG) 3 1) rfl (.head _) rfl ⟨rfl,rfl,rfl⟩ (ghNo (endMH (.tuple [.nils,.g (.bool false)]) (olds 0 1 2 3 4 5) rfl rfl rfl (.inl rfl) rfl rfl rfl rfl rfl ?_ (st5 rfl rfl rfl rfl) ?_)))⟩
  ·simp[fz,Fr.z]
  ·unfold popQ
   rw[if_pos (by omega)]
 ·obtain ⟨k,hk⟩:∃ k:Nat,t.f.ws.length=k+n:=⟨t.f.ws.length - n,by omega⟩
  have hsub:D.g (.int (((t.f.ws.map intG).length:Int) - (n:Int)))=D.g (.int (k:Int)):=by rw[hwl,hk];congr 2;omega
  refine ⟨_,snoc_at Fr.g pre t,ldG_at rfl (Fr.g_words ht.1) (.inr (ghTag 1 6 rfl (.head _) rfl (ghNo ?_)))⟩
  refine ⟨k,hsub,by omega,.inl ?_⟩
  refine .inr (semRow (.inl rfl) (Clone_any _ ?_) ?_ ?_)
  ·simp;omega
  ·intro r hr g hg
   obtain ⟨x,_,rfl⟩:=List.mem_map.1 (List.mem_of_mem_drop (List.mem_of_mem_take hr))
   rcases List.mem_singleton.1 hg with rfl
   trivial
  refine ⟨_,snoc_at Fr.g pre t,ldG_at rfl (Fr.g_words ht.1) (.inr (ghTag 1 6 rfl (.head _) rfl (ghNo ?_)))⟩
  refine ⟨k,hsub,by omega,.inr (ghCut rfl (by omega) (ghName 1 8 rfl rfl (fun v'=>ghNo ?_)))⟩
  refine ⟨_,[.raw v'],snoc_at Fr.g pre t,⟨rfl,trivial⟩,by rw[Fr.g_len ht.1];decide,(fun h=>by cases h),.inl ?_⟩
  refine ⟨rfl,.inr (ghHide 1 8 v' (.row ((t.f.ws.take k).map intG) 3 1) rfl (.head _) rfl ⟨by rw[List.map_take],rfl,rfl⟩ (ghNo (endMH (fs:=pre++[t.ww (t.f.ws.take k) v']) (.tuple [.g (.sl 1 ((t.f.ws.drop k).map intG)),.g (.bool true)]) (olds 0 1 2 3 4 5) rfl rfl rfl (.inl ?_) rfl rfl rfl rfl (snoc_set Fr.g pre t _ _ (Fr.g_set_words ht.1 _ _).symm) ?_ (st5 rfl rfl rfl (snoc_len _ _ _)) ?_)))⟩
  ·show D.tuple [.g (.sl 1 (((t.f.ws.map intG).drop k).take _)),_]=_
   rw[List.take_of_length_le (by simp),List.map_drop]
   rfl
  ·simp[fz,Fr.z,Fr.ww]
  ·unfold popQ
   rw[if_neg (by omega),show t.f.ws.length - n=k from by omega]
   exact ⟨v',rfl⟩
end Go.Proofs.YtijdegmamdhcbaaDoor
/-
  mach: a frame is entered; whose a word is.
-/
namespace Barb
open Go Go.Dm Go.Eng
def p8 (l:List Int):List Int:=[l.getD 0 0,l.getD 1 0,l.getD 2 0,l.getD 3 0,l.getD 4 0,l.getD 5 0,l.getD 6 0,l.getD 7 0]
theorem p8_set (l:List Int) (a b c d:D):setL [a,b,.g (.int 0),.g (.int 0),.g (.int 0),.g (.int 0),.g (.int 0),.g (.int 0),.g (.int 0),.g (.int 0),c,d] 2 ((((l.map intG).take 8).flatten).map .g) =
  [a,b,.g (.int (l.getD 0 0)),.g (.int (l.getD 1 0)),.g (.int (l.getD 2 0)),.g (.int (l.getD 3 0)),.g (.int (l.getD 4 0)),.g (.int (l.getD 5 0)),.g (.int (l.getD 6 0)),.g (.int (l.getD 7 0)),c,d]:=by
 match l with
 | []=>rfl
 | [_]=>rfl
 | [_,_]=>rfl
 | [_,_,_]=>rfl
 | [_,_,_,_]=>rfl
 | [_,_,_,_,_]=>rfl
 | [_,_,_,_,_,_]=>rfl
 | [_,_,_,_,_,_,_]=>rfl
 | _ :: _ :: _ :: _ :: _ :: _ :: _ :: _ :: _=>rfl
theorem seesG (h:Heap):∀ gs:List GV,SeesL h (gs.map .g) gs
 | []=>trivial
 | _ :: gs=>⟨rfl,seesG h gs⟩
def isOwn (p:Part) (at_:Int):Prop:=p.lo≤at_∧at_ < p.hi
instance (p:Part) (at_:Int):Decidable (isOwn p at_):=by unfold isOwn;infer_instance
def newF (part at_ noted:Int) (args:List Int):Fr:=⟨⟨part,at_,p8 args,[],noted⟩,.slice none 0 0⟩
theorem newF_ok (part at_ noted:Int) (args:List Int):(newF part at_ noted args).ok:=⟨rfl,by simp[newF]⟩
end Barb
namespace Go.Proofs.YtijdegmamdhcbaaDoor
open Go Go.Dm Go.Eng Go.RowKit Barb

def enterQ (m:Image) (e val:Int) (o:MO) (fs:List Fr) (N:Ns) (part at_ noted:Int) (args:List Int):Out→Prop:=fun out =>
 if fs.length=20 then out=.ret (.g (.int 5)) (MH m e val o fs N) else ∃ f,out=.ret (.g (.int 0)) (MH m e val o (fs++[newF part at_ noted args]) (N.withF f))
theorem enter_any (m:Image) (e val:Int) (o:MO) (fs:List Fr) (N:Ns) (part at_ noted:Int) (args:List Int) (hf:fs.length≤20) :
  CTH Tryd.prog gl 40 5 (MH m e val o fs N) [.ptr 0 0,.g (.int part),.g (.int at_),.g (.int noted),.g (.sl 1 (args.map intG))] (enterQ m e val o fs N part at_ noted args):=by
 refine enterH [] hT hF hM Tryd.func40 rfl 36 rfl (by kernel_rfl) [.tmp 10] rfl [.ptr 0 0,.g (.int part),.g (.int at_),.g (.int noted),.g (.sl 1 (args.map intG))] rfl (MH m e val o fs N) [0] rfl rfl rfl 1 (ns4 N) (tg4 _ _ _ _ _ _) _ ?_
 have hl:(fs.map Fr.g).length=fs.length:=List.length_map _
 refine ⟨fun h=>?_,fun h=>?_⟩
 ·refine ⟨rfl,.inl (endMH (.g (.int 5)) (olds 0 1 2 3 4 5) rfl rfl rfl (.inl rfl) rfl rfl rfl rfl rfl (List.Perm.refl _) (st4 rfl rfl rfl) ?_)⟩
  unfold enterQ
  rw[if_pos (by omega)]
 ·refine .inr (ghRaw (ghNo ?_))
  refine .inl ?_
  refine .inl ?_
  refine ⟨_,(p8_set args _ _ _ _).symm,?_⟩
  refine ⟨some 9998,[10],rfl,?_⟩
  refine ⟨[(newF part at_ noted args).g],rfl,rfl,seesG _ (newF part at_ noted args).g,⟨_,rfl⟩,?_⟩
  refine ⟨⟨by simp[maxLen];omega,by simp;omega⟩,?_⟩
  refine .inr (ghNameN 1 8 (fun v=>[(N.d,2),(N.t,3),(N.c,4),(v,8)]) rfl rfl (fun v t ht=>?_) (fun v'=>ghNo ?_))
  ·simp only[List.mem_cons,List.not_mem_nil,or_false] at ht ⊢
   rcases ht with rfl | rfl | rfl | rfl<;>simp
  refine ⟨rfl,.inr (ghNil 1 3 1 (by decide) rfl (ghNo (endMH (fs:=fs++[newF part at_ noted args]) (N:=N.withF v') (.g (.int 0)) (olds 0 1 2 3 4 8) rfl rfl rfl (.inl rfl) rfl rfl rfl rfl ?_ ?_ (st4 rfl rfl rfl) ?_)))⟩
  ·simp
  ·simp[fz,Fr.z,newF]
  ·unfold enterQ
   rw[if_neg (by omega)]
   exact ⟨v',rfl⟩

theorem own_fn:fnOk Tryd.prog 91=true:=by kernel_rfl
theorem ownM_any (m:Image) (e val:Int) (o:MO) (pre:List Fr) (t:Fr) (N:Ns) (k:Nat) (hk:k < m.length) (htk:t.f.part=(k:Int)) (at_:Int) (hp:pre.length < 1000) :
  CTH Tryd.prog gl 91 6 (MH m e val o (pre++[t]) N) [.ptr 0 0,.g (.int at_)] (fun out=>out=.ret (.pb (isOwn m[k] at_)) (MH m e val o (pre++[t]) N)):=by
 refine enterH [] hT hF hM Tryd.func91 rfl 28 rfl (by kernel_rfl) [.tmp 4] rfl [.ptr 0 0,.g (.int at_)] rfl (MH m e val o (pre++[t]) N) [0] rfl rfl rfl 1 (ns5 N) (tg5 _ _ _ _ _ _) _ ?_
 refine ⟨none,rfl,?_⟩
 refine ⟨top_fn,_,fun h' hx=>top_rd (hx _ _ rfl) rfl (hx _ _ rfl) (n:=pre.length) (by simp) (by omega),?_⟩
 refine ⟨_,snoc_at Fr.g pre t,?_⟩
 refine ⟨k,_,(show D.g (.int t.f.part)=D.g (.int (k:Int)) by rw[htk]),gm hk,?_⟩
 refine ⟨fun h=>?_,fun h=>?_⟩
 ·exact ⟨rfl,.inl (endMH _ (olds 0 1 2 3 4 5) rfl rfl rfl (.inr (lkP ⟨fun h2=>⟨h,h2⟩,fun h2=>h2.2⟩)) rfl rfl rfl rfl rfl (List.Perm.refl _) (st5 rfl rfl rfl rfl) rfl)⟩
 ·exact ⟨rfl,.inl (endMH _ (olds 0 1 2 3 4 5) rfl rfl rfl (.inr (lkBP ⟨fun h2=>(by cases h2),fun h2=>absurd h2.1 h⟩)) rfl rfl rfl rfl rfl (List.Perm.refl _) (st5 rfl rfl rfl rfl) rfl)⟩
end Go.Proofs.YtijdegmamdhcbaaDoor
/-
  mach: what a step does, plain.
-/
namespace Barb
open Go Go.Dm Go.Eng Go.Proofs.YtijdegmamdhcbaaDoor
inductive R where
 | go (o:MO) (fs:List PF)
 | stop (c v:Int) (o:MO)
def PF.ww (t:PF) (ws:List Int):PF:={ t with ws:=ws }
def pushS (o:MO) (pre:List PF) (t:PF) (n:Int):R:=if t.ws.length=40 then .stop 4 0 o else .go o (pre++[t.ww (t.ws++[n])])
def PF.off (t:PF) (n:Nat):List Int:=t.ws.drop (t.ws.length - n)
def PF.on (t:PF) (n:Nat):PF:=t.ww (t.ws.take (t.ws.length - n))
def enterS (o:MO) (fs:List PF) (part at_ noted:Int) (args:List Int):R:=if fs.length=20 then .stop 5 0 o else .go o (fs++[⟨part,at_,p8 args,[],noted⟩])
def memS (p:Part) (i:Instr) (o:MO) (pre:List PF) (t:PF):R :=
 if i.op=6 then
  if t.ws.length < 1 then .stop 4 0 o else
  if isOwn p ((t.off 1).getD 0 0) then .go o (pre++[t.ww ((t.on 1).ws++[o.data.getD ((t.off 1).getD 0 0).toNat 0])]) else .stop 4 0 o
 else
  if t.ws.length < 2 then .stop 4 0 o else
  if isOwn p ((t.off 2).getD 0 0) then .go { o with data:=o.data.set ((t.off 2).getD 0 0).toNat ((t.off 2).getD 1 0) } (pre++[t.on 2]) else .stop 4 0 o
def noPart:Part:=⟨[],[],0,0⟩
def noEntry:Entry:=⟨0,0⟩
def noInstr:Instr:=⟨0,0,0,0⟩
def gateBad (m:Image) (i:Instr):Prop:=i.a ≥ m.length∨i.b ≥ (m.getD i.a.toNat noPart).entries.length∨((m.getD i.a.toNat noPart).entries.getD i.b.toNat noEntry).params≠i.c
instance (m:Image) (i:Instr):Decidable (gateBad m i):=by unfold gateBad;infer_instance
def gateS (m:Image) (i:Instr) (o:MO) (pre:List PF) (t:PF):R :=
 if t.ws.length < i.c.toNat then .stop 4 0 o else if gateBad m i then .stop 4 0 o else
 let e:=(m.getD i.a.toNat noPart).entries.getD i.b.toNat noEntry
 let l:=t.off i.c.toNat
 if o.calls.length < 100 then enterS { o with calls:=o.calls++[⟨t.part,i.a,i.b,l,(pre.length+1:Nat),false,0⟩] } (pre++[t.on i.c.toNat]) i.a e.at_ o.calls.length l
 else enterS o (pre++[t.on i.c.toNat]) i.a e.at_ (-1) l
def Nt.fin (n:Nt) (v:Int):Nt:={ n with done:=true,value:=v }
def noteS (o:MO) (k:Int) (v:Int):MO:=if 0≤k then { o with calls:=o.calls.modify k.toNat (·.fin v) } else o
def retS (o:MO) (pre:List PF) (t:PF):R :=
 if t.ws.length < 1 then .stop 4 0 o else
 let v:=(t.off 1).getD 0 0
 match pre.getLast? with
 | none=>.stop 1 v (noteS o t.noted v)
 | some f=>pushS (noteS o t.noted v) pre.dropLast f v
def ctlS (m:Image) (i:Instr) (o:MO) (pre:List PF) (t:PF):R :=
 if i.op=9 then .go o (pre++[{ t with at_:=i.a }])
 else if i.op=10 then if t.ws.length < 1 then .stop 4 0 o else .go o (pre++[if (t.off 1).getD 0 0=0 then { t.on 1 with at_:=i.a } else t.on 1])
 else if i.op=11 then if t.ws.length < i.b.toNat then .stop 4 0 o else enterS o (pre++[t.on i.b.toNat]) t.part i.a (-1) (t.off i.b.toNat)
 else if i.op=12 then gateS m i o pre t
 else if i.op=13 then retS o pre t
 else .stop 2 0 o
def wrdS (i:Instr) (o:MO) (pre:List PF) (t:PF):R :=
 if i.op=1 then pushS o pre t i.a
 else if i.op=4 then pushS o pre t (t.locs.getD i.a.toNat 0)
 else
  let n:Nat:=if i.op=8 then 2 else 1
  if t.ws.length < n then .stop 4 0 o else
  let x:=(t.off n).getD 0 0
  if i.op=3 then if t.ws.length=40 then .stop 4 0 o else .go o (pre++[t.ww (t.ws++[x])])
  else if i.op=5 then .go o (pre++[{ t.on 1 with locs:=t.locs.set i.a.toNat x }])
  else if i.op=14 then if o.told.length=500 then .stop 6 0 o else .go { o with told:=o.told++[x] } (pre++[t.on 1])
  else if i.op=8 then .go o (pre++[t.ww ((t.on 2).ws++[doI i.a x ((t.off 2).getD 1 0)])])
  else .go o (pre++[t.on 1])
def stepS (m:Image) (o:MO) (pre:List PF) (t:PF):R :=
 let p:=m.getD t.part.toNat noPart
 if t.at_ ≥ p.code.length then .stop 4 0 o else
 let i:=p.code.getD t.at_.toNat noInstr
 let t:={ t with at_:=t.at_+1 }
 if i.op=6∨i.op=7 then memS p i o pre t
 else if i.op=9∨i.op=10∨i.op=11∨i.op=12∨i.op=13∨i.op=15 then ctlS m i o pre t
 else wrdS i o pre t

structure PF.ok (m:Image) (calls:List Nt) (t:PF):Prop where
 part:∃ k:Nat,t.part=(k:Int)∧k < m.length
 at0:0≤t.at_
 at1:t.at_≤2000
 locs:t.locs.length=8
 ws:t.ws.length≤40
 noted:t.noted < calls.length
structure SOk (m:Image) (o:MO) (fs:List PF):Prop where
 img:imgE m=0
 data:(o.data.length:Int)=imgWords m
 told:o.told.length≤500
 calls:o.calls.length≤100
 deep:fs.length≤20
 frs:∀ f∈fs,f.ok m o.calls
end Barb

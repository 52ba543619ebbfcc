/-
  strings.Repeat: its contract, as the walks ask it.
-/
import Derived.Test.YtabjelabdojpkaaDoorLb
import Derived.Test.YtabjelabdojpkaaDoorSpec2
import Derived.Shelf.Strings.Repeat
namespace Go.Proofs.YtabjelabdojpkaaDoor
open Go Go.Dm Go.Eng Go.RowKit Go.Shelf Barb
variable {L:Lv}
shelf_lay Lays.n105 Nm 105 at Tryd as laysRepeat
theorem extraRepeat:Builder.Extra Tryd.prog laysRepeat_ren where
 sizeBuilder:=by kernel_rfl
 liesBuilder:=by kernel_rfl
 t5:=laysIndex.t5
 a5:=run_isAgg_plain laysIndex.t5 rfl
 z5:=laysIndex.z5
 v5:=laysIndex.v5
 infoByte:=by kernel_rfl
 cellsByte:=by kernel_rfl
 sizeByte:=by kernel_rfl
 neB5:=by decide
theorem Repeat_any (s:Str) (c:Nat) (hc:c≤9223372036854775807) (hs:s.length*c≤140737488355328):CT Tryd.prog (gl L) 10 [.g (.str s),.g (.int (c:Int))] (Is (.g (.str (Lib.repeatL s c)))):=by
 refine ct_of_raw fun w V vals hG hr=>?_
 simp only[RepDL] at hr
 obtain ⟨v,us,rfl,hv,v2,us2,rfl,hv2,rfl⟩:=hr
 simp only[RepD,RepV] at hv hv2
 subst hv;subst hv2
 refine (Any.strings_Repeat laysRepeat extraRepeat ⟨⟨s⟩⟩ c w hc hs).mono fun e w' ⟨he,hw⟩=>⟨_,he,hw,?_⟩
 simp only[RepD,RepV]
end Go.Proofs.YtabjelabdojpkaaDoor

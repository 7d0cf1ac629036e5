/- The statement holds: for every input the law returns true, and each argument reads behind the call as it did before; the package-level variables are as the text lays them. -/
import Derived.Test.YtmmkfcpdfnjgjaaGreatDoorTp4
import Derived.Test.YtmmkfcpdfnjgjaaGreatDoorTp6
import Derived.Test.YtmmkfcpdfnjgjaaGreatDoorCards
import Derived.Test.YtmmkfcpdfnjgjaaGreatDoorTie

namespace Go.Proofs.YtmmkfcpdfnjgjaaGreatDoor
open Go.Den Go.RowKit Go.ChangeShapes
set_option maxRecDepth 100000 in
theorem Vf (os:Os) (started:os.Started) (H:Type) (enc:TypeId×Value→H) :
 ReturnsInHanded {} Tryz.checked os 5 .any (fun w args=>(Rows.topReportsSpec.pre enc Tryz.prog Tryz.f5 [] false w args∧laidMetH Tryz.prog Rows.topReportsRow.laid w)∧sizedMet enc Tryz.prog Tryz.f5 (OpenSpec.ofChange Rows.topReportsSpec) false w args)
  (Rows.topReportsSpec.post enc Tryz.prog Tryz.f5 false true false false):=by
 refine returnsInHanded_of_change_and (C:=Tryz.checked) (X:=fun w _=>laidMetH Tryz.prog Rows.topReportsRow.laid w) (fun _ _ _ hh h=>h.of_heap hh) own started (by kernel_rfl) Tryz.func5
  (ChangeSpec.witness_at (enc:=enc) (C:=Tryz.checked) (os:=os) (X:=fun w _=>laidMetH Tryz.prog Rows.topReportsRow.laid w) false (aZ os) #[.agg #[.int .i64 0,.slice none 0 0,.slice none 0 0,.slice none 0 0,.slice none 0 0,.slice none 0 0,.int .i64 0,.int .i64 0,.int .i64 0,.int .i64 0,.int .i64 0,.slice none 0 0],.agg #[.slice none 0 0],.slice none 0 0] 8 rfl (by kernel_rfl) (by kernel_rfl) (by kernel_rfl) (by kernel_rfl) (by kernel_rfl) (dJ os _)) ?_
 intro W base args ds gs before hval hW _ _ hL _
 exact Aad (n:=40) Xc laidOut (by kernel_rfl) rfl (by kernel_rfl) Tryz.underlying4 hval hW (yU hL) (fun hl=>by
  match ds,hl with
  |[_,_,_],_=>rfl) (fun x hf _=>aE x hf)
theorem W9:Rows.TopReportsSaid :=
 OpenClaim.holds_of_wide 5 Tryz.f5 rfl rfl rfl rfl rfl rfl rfl ⟨rfl,rfl,rfl,rfl,rfl⟩ rfl rfl rfl rfl rfl (by kernel_rfl) Tryz.func5 (by kernel_rfl)
  (of_decide_eq_true (by kernel_rfl)) (by unfold Func.isWrapper;first|(rw[if_pos (by decide +kernel)];kernel_rfl)|(rw[if_neg (by decide +kernel)];exact ⟨rfl,rfl⟩))
  (fun os started H enc _=>Vf os started H enc)
theorem topReports_card:Rows.TopReportsCardSaid :=
 Claim7.holds_tied_plain_at .later [] [.data,.data] true (true,"c5641f4afcdbcafea3ae2feda099b80b48c938a3859ffea2fb88715494d33cf8") false
  W9 (fun _ h=>by cases h) (by kernel_rfl) (fun _ h=>by cases h) topReports_row_tie rfl ⟨rfl,rfl⟩ (by kernel_rfl) rfl
  (fun f fn hf hfn=>by
    obtain rfl:f=5:=Option.some.inj ((show Tryz.prog.funcNamed Rows.topReportsRow.func=some 5 by kernel_rfl).symm.trans hf) |>.symm
    obtain rfl:fn=Tryz.f5:=(Option.some.inj (Tryz.func5.symm.trans hfn)).symm
    exact ⟨by kernel_rfl,fun j t ht=>by
     have hall:Tryz.f5.params.toList.all (fun t=>!Tryz.prog.wantsStandIn t)=true:=by kernel_rfl
     have hm:t∈Tryz.f5.params.toList:=by
      rw[←Array.getElem?_toList] at ht
      exact List.mem_of_getElem? ht
     have h2:Tryz.prog.wantsStandIn t=false:=by simpa using List.all_eq_true.1 hall t hm
     exact h2⟩)
  (by kernel_rfl)
end Go.Proofs.YtmmkfcpdfnjgjaaGreatDoor

/- The statement holds: for every input the law returns true, and each argument reads behind the call as it did before; the package-level variables are as the text lays them. -/
import Derived.Test.YtlgpjdjcbincgaaGreatDoorRg4
import Derived.Test.YtlgpjdjcbincgaaGreatDoorRg12
import Derived.Test.YtlgpjdjcbincgaaGreatDoorCards
import Derived.Test.YtlgpjdjcbincgaaGreatDoorTie

namespace Go.Proofs.YtlgpjdjcbincgaaGreatDoor
open Go.Den Go.RowKit Go.ChangeShapes
set_option maxRecDepth 100000 in
theorem AhT (os:Os) (started:os.Started) (H:Type) (enc:TypeId×Value->H) :
 ReturnsInHanded {} Tryz.checked os 3 .any (λw args=>(Rows.topMasterSpec.pre enc Tryz.prog Tryz.f3 [] false w args/\laidMetH Tryz.prog Rows.topMasterRow.laid w)/\sizedMet enc Tryz.prog Tryz.f3 (OpenSpec.ofChange Rows.topMasterSpec) false w args)
  (Rows.topMasterSpec.post enc Tryz.prog Tryz.f3 false true false false):=by
 refine returnsInHanded_of_change_and (C:=Tryz.checked) (X:=λw _=>laidMetH Tryz.prog Rows.topMasterRow.laid w) (λ_ _ _ g h=>h.of_heap g) own started (by kernel_rfl) Tryz.func3
  (ChangeSpec.witness_at (enc:=enc) (C:=Tryz.checked) (os:=os) (X:=λw _=>laidMetH Tryz.prog Rows.topMasterRow.laid w) false (eU os) #[.agg #[.slice none 0 0,.slice none 0 0,.slice none 0 0,.int .i64 0,.int .i64 0,.int .i64 0],.int .i64 0] 8 rfl (by kernel_rfl) (by kernel_rfl) (by kernel_rfl) (by kernel_rfl) (by kernel_rfl) (iH os _)) ?_
 intro W base args ds gs before c o _ d p _
 exact Aba (n:=40) top_TopMaster_k.ok laidOut (by kernel_rfl) rfl (by kernel_rfl) Tryz.underlying4 c o (Aap p) d (λt=>by
  match ds,t with
  |[_,_],_=>rfl) (λx v y=>AhZ x v y)
theorem AhV:Rows.TopMasterSaid :=
 OpenClaim.holds_of_wide 3 Tryz.f3 rfl rfl rfl rfl rfl rfl rfl ⟨rfl,rfl,rfl,rfl,rfl⟩ rfl rfl rfl rfl rfl (by kernel_rfl) Tryz.func3 Ah6
  (of_decide_eq_true (by kernel_rfl)) (by unfold Func.isWrapper;first|(rw[if_pos (by decide +kernel)];kernel_rfl)|(rw[if_neg (by decide +kernel)];exact ⟨rfl,rfl⟩))
  λos started H enc _=>AhT os started H enc
theorem topMaster_card:Rows.TopMasterCardSaid :=
 Claim7.holds_tied_plain_at .later [] [.data,.data] true (true,"86f0b56facf55d5c394bf7203704613a2ae1a6533f48cb68547f1069533f05c5") false
  AhV (λ_ h=>by cases h) (by kernel_rfl) (λ_ h=>by cases h) topMaster_row_tie rfl ⟨rfl,rfl⟩ (by kernel_rfl) rfl
  λf fn hf hfn=>by
    obtain rfl:f=3:=Qag ((show Tryz.prog.funcNamed Rows.topMasterRow.func=some 3 by kernel_rfl).symm.trans hf) |>.symm
    obtain rfl:fn=Tryz.f3:=(Qag (Tryz.func3.symm.trans hfn)).symm;exact ⟨Ah7,λj t ht=>by
     have hall:Tryz.f3.params.toList.all (λt=>!Tryz.prog.wantsStandIn t)=true:=by kernel_rfl
     have hm:t∈Tryz.f3.params.toList:=by rw[<-Qav] at ht;exact Qcn ht
     have h2:Tryz.prog.wantsStandIn t=false:=by simpa using List.all_eq_true.1 hall t hm
     exact h2⟩
  Ah2
end Go.Proofs.YtlgpjdjcbincgaaGreatDoor

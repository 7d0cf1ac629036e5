/- The statement holds: for every input the law returns true, and each argument reads behind the call as it did before; the package-level variables are as the text lays them. -/
import Derived.Test.YtlgpjdjcbincgaaGreatDoorRg4
import Derived.Test.YtlgpjdjcbincgaaGreatDoorRg13
import Derived.Test.YtlgpjdjcbincgaaGreatDoorCards
import Derived.Test.YtlgpjdjcbincgaaGreatDoorTie

namespace Go.Proofs.YtlgpjdjcbincgaaGreatDoor
open Go.Den Go.RowKit Go.ChangeShapes
set_option maxRecDepth 100000 in
theorem Ai1 (os:Os) (started:os.Started) (H:Type) (enc:TypeId×Value->H) :
 ReturnsInHanded {} Tryz.checked os 4 .any (λw args=>(Rows.topQuietSpec.pre enc Tryz.prog Tryz.f4 [] false w args/\laidMetH Tryz.prog Rows.topQuietRow.laid w)/\sizedMet enc Tryz.prog Tryz.f4 (OpenSpec.ofChange Rows.topQuietSpec) false w args)
  (Rows.topQuietSpec.post enc Tryz.prog Tryz.f4 false true false false):=by
 refine returnsInHanded_of_change_and (C:=Tryz.checked) (X:=λw _=>laidMetH Tryz.prog Rows.topQuietRow.laid w) (λ_ _ _ g h=>h.of_heap g) own started (by kernel_rfl) Tryz.func4
  (ChangeSpec.witness_at (enc:=enc) (C:=Tryz.checked) (os:=os) (X:=λw _=>laidMetH Tryz.prog Rows.topQuietRow.laid w) false (eU os) #[.agg #[.slice none 0 0,.slice none 0 0,.slice none 0 0,.int .i64 0,.int .i64 0,.int .i64 0],.slice none 0 0,.slice none 0 0] 8 rfl (by kernel_rfl) (by kernel_rfl) (by kernel_rfl) (by kernel_rfl) (by kernel_rfl) (iH os _)) ?_
 intro W base args ds gs before c t _ d y _
 exact Aba (n:=40) Ai5 laidOut (by kernel_rfl) rfl (by kernel_rfl) Tryz.underlying4 c t (Aap y) d (λE=>by
  match ds,E with
  |[_,_,_],_=>rfl) (λx I J=>Ai9 x I J)
theorem Ai4:Rows.TopQuietSaid :=
 OpenClaim.holds_of_wide 4 Tryz.f4 rfl rfl rfl rfl rfl rfl rfl ⟨rfl,rfl,rfl,rfl,rfl⟩ rfl rfl rfl rfl rfl (by kernel_rfl) Tryz.func4 Aji
  (of_decide_eq_true (by kernel_rfl)) (by unfold Func.isWrapper;first|(rw[if_pos (by decide +kernel)];kernel_rfl)|(rw[if_neg (by decide +kernel)];exact ⟨rfl,rfl⟩))
  λos started H enc _=>Ai1 os started H enc
theorem topQuiet_card:Rows.TopQuietCardSaid :=
 Claim7.holds_tied_plain_at .later [] [.data,.data] true (true,"86f0b56facf55d5c394bf7203704613a2ae1a6533f48cb68547f1069533f05c5") false
  Ai4 (λ_ h=>by cases h) (by kernel_rfl) (λ_ h=>by cases h) topQuiet_row_tie rfl ⟨rfl,rfl⟩ (by kernel_rfl) rfl
  λf fn hf hfn=>by
    obtain rfl:f=4:=Qag ((show Tryz.prog.funcNamed Rows.topQuietRow.func=some 4 by kernel_rfl).symm.trans hf) |>.symm
    obtain rfl:fn=Tryz.f4:=(Qag (Tryz.func4.symm.trans hfn)).symm;exact ⟨Ajj,λj t ht=>by
     have hall:Tryz.f4.params.toList.all (λt=>!Tryz.prog.wantsStandIn t)=true:=by kernel_rfl
     have hm:t∈Tryz.f4.params.toList:=by rw[<-Qav] at ht;exact Qcn ht
     have h2:Tryz.prog.wantsStandIn t=false:=by simpa using List.all_eq_true.1 hall t hm
     exact h2⟩
  Aje
end Go.Proofs.YtlgpjdjcbincgaaGreatDoor

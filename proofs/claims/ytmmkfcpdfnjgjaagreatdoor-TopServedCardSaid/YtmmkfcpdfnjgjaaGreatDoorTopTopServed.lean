/- The statement holds: for every input the law returns true, and each argument reads behind the call as it did before; the package-level variables are as the text lays them. -/
import Derived.Test.YtmmkfcpdfnjgjaaGreatDoorTp4
import Derived.Test.YtmmkfcpdfnjgjaaGreatDoorTp6
import Derived.Test.YtmmkfcpdfnjgjaaGreatDoorCards
import Derived.Test.YtmmkfcpdfnjgjaaGreatDoorTie

namespace Go.Proofs.YtmmkfcpdfnjgjaaGreatDoor
open Go.Den Go.RowKit Go.ChangeShapes
set_option maxRecDepth 100000 in
theorem YF (os:Os) (started:os.Started) (H:Type) (enc:TypeId×Value→H) :
 ReturnsInHanded {} Tryz.checked os 6 .any (fun w args=>(Rows.topServedSpec.pre enc Tryz.prog Tryz.f6 [] false w args∧laidMetH Tryz.prog Rows.topServedRow.laid w)∧sizedMet enc Tryz.prog Tryz.f6 (OpenSpec.ofChange Rows.topServedSpec) false w args)
  (Rows.topServedSpec.post enc Tryz.prog Tryz.f6 false true false false):=by
 refine returnsInHanded_of_change_and (C:=Tryz.checked) (X:=fun w _=>laidMetH Tryz.prog Rows.topServedRow.laid w) (fun _ _ _ hh h=>h.of_heap hh) own started (by kernel_rfl) Tryz.func6
  (ChangeSpec.witness_at (enc:=enc) (C:=Tryz.checked) (os:=os) (X:=fun w _=>laidMetH Tryz.prog Rows.topServedRow.laid w) false (Pt os) #[.agg #[.int .i64 0,.slice none 0 0,.slice none 0 0,.slice none 0 0,.slice none 0 0,.slice none 0 0,.int .i64 0,.int .i64 0,.int .i64 0,.int .i64 0,.int .i64 0,.slice none 0 0],.int .i64 0,.slice none 0 0,.slice none 0 0] 8 rfl (by kernel_rfl) (by kernel_rfl) (by kernel_rfl) (by kernel_rfl) (by kernel_rfl) (Ny os _)) ?_
 intro W base args ds gs before hval hW _ _ hL _
 exact Uj (n:=40) aT laidOut (by kernel_rfl) rfl (by kernel_rfl) Tryz.underlying4 hval hW (Tq hL) (fun hl=>by
  match ds,hl with
  |[_,_,_,_],_=>rfl) (fun x hf _=>jU x hf)
theorem aQ:Rows.TopServedSaid :=
 OpenClaim.holds_of_wide 6 Tryz.f6 rfl rfl rfl rfl rfl rfl rfl ⟨rfl,rfl,rfl,rfl,rfl⟩ rfl rfl rfl rfl rfl (by kernel_rfl) Tryz.func6 (by kernel_rfl)
  (of_decide_eq_true (by kernel_rfl)) (by unfold Func.isWrapper;first|(rw[if_pos (by decide +kernel)];kernel_rfl)|(rw[if_neg (by decide +kernel)];exact ⟨rfl,rfl⟩))
  (fun os started H enc _=>YF os started H enc)
theorem topServed_card:Rows.TopServedCardSaid :=
 Claim7.holds_tied_plain_at .later [] [.data,.data] true (true,"c5641f4afcdbcafea3ae2feda099b80b48c938a3859ffea2fb88715494d33cf8") false
  aQ (fun _ h=>by cases h) (by kernel_rfl) (fun _ h=>by cases h) topServed_row_tie rfl ⟨rfl,rfl⟩ (by kernel_rfl) rfl
  (fun f fn hf hfn=>by
    obtain rfl:f=6:=Option.some.inj ((show Tryz.prog.funcNamed Rows.topServedRow.func=some 6 by kernel_rfl).symm.trans hf) |>.symm
    obtain rfl:fn=Tryz.f6:=(Option.some.inj (Tryz.func6.symm.trans hfn)).symm
    exact ⟨by kernel_rfl,fun j t ht=>by
     have hall:Tryz.f6.params.toList.all (fun t=>!Tryz.prog.wantsStandIn t)=true:=by kernel_rfl
     have hm:t∈Tryz.f6.params.toList:=by
      rw[←Array.getElem?_toList] at ht
      exact List.mem_of_getElem? ht
     have h2:Tryz.prog.wantsStandIn t=false:=by simpa using List.all_eq_true.1 hall t hm
     exact h2⟩)
  (by kernel_rfl)
end Go.Proofs.YtmmkfcpdfnjgjaaGreatDoor

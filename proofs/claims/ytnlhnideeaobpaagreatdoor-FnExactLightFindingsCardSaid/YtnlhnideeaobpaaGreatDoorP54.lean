/- 'laws.FnExactLightFindings' returns true whatever the input, and the input reads as it did. Conditions: none. -/
import Derived.Test.YtnlhnideeaobpaaGreatDoorQm
import Derived.Test.YtnlhnideeaobpaaGreatDoorQq
namespace Go.Proofs.YtnlhnideeaobpaaGreatDoor
instance:St:=⟨False⟩
open Go.ChangeShapes Go.WideShapes Go.ChangeAt Go.RowKit Go.WideMaps Go.WideElems
set_option maxRecDepth 100000
set_option maxHeartbeats 2000000
set_option linter.unusedVariables false
set_option linter.unusedSimpArgs false
namespace fnExactLightFindings
theorem abg (os:Os) (args:Array Value):laidMetH Tryz.prog Rows.fnExactLightFindingsRow.laid ((World.laidAll Tryz.prog os Rows.fnExactLightFindingsRow.laid).forCall (λ_ _=>0) ⟨#[],args,[]⟩).memory:=by
 rw [MakeChecks.laidMetH_plain _ _ _ (by kernel_rfl)];exact laidMet_laidAll _ (by kernel_rfl) (by kernel_rfl)
theorem lifted (os:Os) (started:os.Started) (H:Type) (enc:TypeId×Value->H):
  ReturnsInHanded {} Tryz.checked os 3 .any (λw args=>(Rows.fnExactLightFindingsSpec.pre enc Tryz.prog Tryz.f3 [] false w args/\laidMetH Tryz.prog Rows.fnExactLightFindingsRow.laid w)/\sizedMet enc Tryz.prog Tryz.f3 (OpenSpec.ofChange Rows.fnExactLightFindingsSpec) false w args)
   (Rows.fnExactLightFindingsSpec.post enc Tryz.prog Tryz.f3 false true false false):=by
 refine returnsInHanded_of_change_and (C:=Tryz.checked) (X:=λw _=>laidMetH Tryz.prog Rows.fnExactLightFindingsRow.laid w) (λ_ _ _ hh h=>h.of_heap hh) own started (by kernel_rfl) Tryz.func3
  (ChangeSpec.witness_shaped (enc:=enc) (C:=Tryz.checked) (os:=os) (X:=λw _=>laidMetH Tryz.prog Rows.fnExactLightFindingsRow.laid w) false (World.laidAll Tryz.prog os Rows.fnExactLightFindingsRow.laid) #[.agg #[.slice none 0 0,.slice none 0 0,.int .i64 0,.slice none 0 0,.slice none 0 0,.int .i64 0,.slice none 0 0,.int .i64 0,.slice none 0 0,.string ByteArray.empty,.int .i64 0,.int .i64 0,.int .i64 0,.int .i64 0,.int .i64 0,.slice none 0 0,.slice none 0 0,.int .i64 0]] 8 (World.laidAll_os _ _ _) (World.shaped_of_ZipB (by kernel_rfl) (by kernel_rfl)) (by kernel_rfl) (by kernel_rfl) (by kernel_rfl) (abg os _)) ?_
 intro W base args ds gs before hval hW _ _ hL _;have hW':=hW;obtain ⟨p,q,hA,_⟩:=hW;obtain ⟨v0,d0,p0,rfl,h0⟩:=args1 (t0:=34) hA;obtain ⟨a0,k0,r0⟩:=ajw H enc W v0 d0 p0 base h0 (hval 0 34 v0 rfl rfl)
 exact (y9 (λh=>h) a0).law (agB hL) (yh.cons r0 yh.nil) laid (by kernel_rfl) rfl rfl rfl (λds h=>by
  match ds,h with
  |[_d0],_=>rfl) hW'
set_option maxHeartbeats 4000000
theorem closed:joinedFacts Tryz.prog 3 Tryz.f3 Rows.fnExactLightFindingsSpec Rows.fnExactLightFindingsRow=true:=
 XO laid aeA abz (by as_aux_lemma=>kernel_rfl) (by as_aux_lemma=>kernel_rfl) (by as_aux_lemma=>kernel_rfl) (by as_aux_lemma=>kernel_rfl) (by as_aux_lemma=>kernel_rfl) (by as_aux_lemma=>kernel_rfl) (by as_aux_lemma=>kernel_rfl)
theorem over:Rows.fnExactLightFindingsRow.holds Tryz.pinned (OpenSpec.ofChange Rows.fnExactLightFindingsSpec):=
 OpenClaim.holds_of_wide 3 Tryz.f3 rfl rfl rfl rfl rfl rfl rfl ⟨rfl,rfl,rfl,rfl,rfl⟩ rfl rfl rfl rfl rfl (by kernel_rfl) Tryz.func3 closed
  (of_decide_eq_true (by kernel_rfl)) (by unfold Func.isWrapper;first|(rw [if_pos (by decide +kernel)];kernel_rfl)|(rw [if_neg (by decide +kernel)];exact ⟨rfl,rfl⟩))
  (λos started H enc _=>lifted os started H enc)
theorem proved:Rows.FnExactLightFindingsCardSaid:=
 Claim7.holds_tied_plain_at .later [] [.data,.data,.data,.listed,.data] true (true, "31e05f303a3a920953632e5763847006fe7431c14876d9506372c91d990b01ff") false
  over (λ_ h=>by cases h) (by as_aux_lemma=>kernel_rfl) (λ_ h=>by cases h) fnExactLightFindings_row_tie rfl ⟨rfl,rfl⟩ (by as_aux_lemma=>kernel_rfl) rfl
  (λf fn hf hfn=>by
   obtain rfl:f=3:=Option.some.inj ((show Tryz.prog.funcNamed "loop.example/g00953/laws.FnExactLightFindings" =some 3 by as_aux_lemma=>kernel_rfl).symm.trans hf) |>.symm;obtain rfl:fn=Tryz.f3:=(Option.some.inj (Tryz.func3.symm.trans hfn)).symm
   exact ⟨by as_aux_lemma=>kernel_rfl,λj t ht=>by
    (have hall:(Tryz.f3.params.toList.all λu=> !Tryz.prog.wantsStandIn u)=true:=by as_aux_lemma=>kernel_rfl);have hm:t∈Tryz.f3.params.toList:=by simpa using Array.mem_of_getElem? ht
    exact (show Tryz.prog.wantsStandIn t=false by simpa using List.all_eq_true.1 hall t hm)⟩)
  (SK X5 rfl)
end fnExactLightFindings
end Go.Proofs.YtnlhnideeaobpaaGreatDoor

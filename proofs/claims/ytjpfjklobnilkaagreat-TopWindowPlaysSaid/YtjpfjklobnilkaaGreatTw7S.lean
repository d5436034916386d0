/- The statement TopWindowPlaysSaid: the law TopWindowPlays returns true, and its arguments read as before. No conditions. -/
import Derived.Test.YtjpfjklobnilkaaGreatTw7
import Derived.Test.YtjpfjklobnilkaaGreatOpen
import Derived.Test.YtjpfjklobnilkaaGreatRows
import Derived.ProofKit
import Derived.OpenShut
import Derived.Test.YtjpfjklobnilkaaGreatTw7J
namespace Go.Proofs.YtjpfjklobnilkaaGreat.topWindowPlays
open Go.RowKit Go.Shelf Go.Joins Go.ChangeShapes Go.WideShapes Go.ChangeAt Go.Deep
set_option linter.unusedVariables false
theorem own:ownKnob Tryz.prog.godebug=none:=by kernel_rfl
set_option maxRecDepth 100000 in
theorem lifted (os:Os) (started:os.Started) (H:Type) (enc:TypeId×Value→H) :
  ReturnsInHanded {} Tryz.checked os 3 .any (Rows.topWindowPlaysSpec.pre6 enc Tryz.prog Tryz.f3 Rows.topWindowPlaysRow.domain false) (Rows.topWindowPlaysSpec.post enc Tryz.prog Tryz.f3 false true false false):=by
 refine returnsInHanded_of_change (C:=Tryz.checked) own started (by kernel_rfl) Tryz.func3
  (ChangeSpec.witness6 (enc:=enc) (C:=Tryz.checked) false ⟨#[],#[.agg #[.int .i64 0,.int .i64 0,.int .i64 0,.slice none 0 0,.slice none 0 0]],[]⟩ 8 (by kernel_rfl) (by kernel_rfl) (by kernel_rfl) (by kernel_rfl)) ?_
 intro W base args ds gs before hval0 hW hcnd _
 have hval:∀ (j:Nat) t v,Tryz.f3.params[j]? = some t→args[j]? = some v→Value.okWide Tryz.prog W .any base t v:=hval0
 have hW':=hW
 obtain ⟨p,q,hA0,hV,rfl,hfz,hnd⟩:=hW
 have hA:DataW.TrodAll enc Tryz.prog W 0 (fun _=>true) true Tryz.f3.params.toList args.toList ds p:=hA0
 rw [Tryz.params3] at hA hval
 obtain ⟨v0,d0,rfl,rfl,h0⟩:=trodAll_one hA
 obtain ⟨rfl,rfl⟩:=trodVars_none hV
 clear hA0 hval0
 simp only [List.append_nil] at hW'
 have hlt:=fun x hx=>hW'.lt x hx
 obtain ⟨x0,y0⟩:=open_cyl (hval 0 _ _ rfl rfl) h0
 refine (topWindow_ok v0 x0 W y0).mono fun e W' ⟨he,hb⟩=>?_
 subst he
 refine ⟨_,rfl,last_of_below (pa:=p++[]) (pv:=[]) hW' (fun _ _ _=>(trodAll_cons_mk (shut_bool Tryz.underlying4 _) trodAll_mk0)) (fun sp hsp=>?_) (fun _ _=>rfl) (by simp)
  hb (ok_one (by kernel_rfl) rfl (okWide_bool_mk Tryz.underlying4 _))⟩
 exact trodAll_cons_mk (arg_stays (by kernel_rfl) (of_decide_eq_true (by kernel_rfl)) h0 hb (fun x hx=>by simp [hx]) hlt hsp) trodAll_mk0
theorem over:Rows.topWindowPlaysRow.holds Tryz.pinned (OpenSpec.ofChange Rows.topWindowPlaysSpec) :=
 OpenClaim.holds_of_wide 3 Tryz.f3 rfl rfl rfl rfl rfl rfl rfl ⟨rfl,rfl,rfl,rfl,rfl⟩ rfl rfl rfl rfl rfl named Tryz.func3 closed inst wrap
  (fun os started H enc _=>lifted os started H enc)
theorem proved:Rows.TopWindowPlaysSaid :=
 over
end Go.Proofs.YtjpfjklobnilkaaGreat.topWindowPlays

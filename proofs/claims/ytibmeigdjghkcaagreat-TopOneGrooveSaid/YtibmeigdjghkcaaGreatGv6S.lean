/- The statement TopOneGrooveSaid: the law TopOneGroove returns true, and its arguments read as befo. No conditions. -/
import Derived.Test.YtibmeigdjghkcaaGreatGv6
import Derived.Test.YtibmeigdjghkcaaGreatOpnG
import Derived.Test.YtibmeigdjghkcaaGreatRows
import Derived.ProofKit
import Derived.OpenShut
import Derived.Test.YtibmeigdjghkcaaGreatGv6J
namespace Go.Proofs.YtibmeigdjghkcaaGreat.topOneGroove
open Go.RowKit Go.Shelf Go.Joins Go.ChangeShapes Go.WideShapes Go.ChangeAt Go.Deep
set_option linter.unusedVariables false
theorem own:ownKnob Tryz.prog.godebug=none:=by kernel_rfl
set_option maxRecDepth 100000 in
theorem lifted (os:Os) (started:os.Started) (H:Type) (enc:TypeId×Value→H) :
  ReturnsInHanded {} Tryz.checked os 3 .any (Rows.topOneGrooveSpec.pre6 enc Tryz.prog Tryz.f3 Rows.topOneGrooveRow.domain false) (Rows.topOneGrooveSpec.post enc Tryz.prog Tryz.f3 false true false false):=by
 refine returnsInHanded_of_change (C:=Tryz.checked) own started (by kernel_rfl) Tryz.func3
  (ChangeSpec.witness6 (enc:=enc) (C:=Tryz.checked) false ⟨#[],#[.agg #[.slice none 0 0,.int .i64 0,.int .i64 0,.int .i64 0],.int .u32 0,.int .u8 0,.int .u8 0],[]⟩ 8 (by kernel_rfl) (by kernel_rfl) (by kernel_rfl) (by kernel_rfl)) ?_
 intro W base args ds gs befo hval0 hW hcnd _
 have hval:∀ (j:Nat) t v,Tryz.f3.params[j]? = some t→args[j]? = some v→Value.okWide Tryz.prog W .any base t v:=hval0
 have hW':=hW
 obtain ⟨p,q,hA0,hV,rfl,hfz,hnd⟩:=hW
 have hA:DataW.TrodAll enc Tryz.prog W 0 (fun _=>true) true Tryz.f3.params.toList args.toList ds p:=hA0
 rw [Tryz.params3] at hA hval
 obtain ⟨v0,v1,v2,v3,d0,d1,d2,d3,p0,p1,p2,p3,rfl,rfl,rfl,h0,h1,h2,h3⟩:=trodAll_four hA
 obtain ⟨rfl,rfl⟩:=trodVars_none hV
 clear hA0 hval0
 simp only [List.append_nil] at hW'
 have hlt:=fun x hx=>hW'.lt x hx
 obtain ⟨x0,y0⟩:=J.open_cyl (hval 0 _ _ rfl rfl) h0
 obtain ⟨x1,rfl, -, -,y1⟩:=open_int (k := .u32) Tryz.underlying27 (hval 1 _ _ rfl rfl) h1
 obtain ⟨x2,rfl, -, -,y2⟩:=open_int (k := .u8) Tryz.underlying5 (hval 2 _ _ rfl rfl) h2
 obtain ⟨x3,rfl, -, -,y3⟩:=open_int (k := .u8) Tryz.underlying5 (hval 3 _ _ rfl rfl) h3
 refine (J.topGroove_said v0 x0 x1 x2 x3 W y0 y1 y2 y3).mono fun e W' ⟨he,hb⟩=>?_
 subst he
 refine ⟨_,rfl,J.last_of_below (pa:=p0++(p1++(p2++(p3)))) (pv:=[]) hW' (fun _ _ _=>(trodAll_cons_mk (shut_bool Tryz.underlying4 _) trodAll_mk0)) (fun sp hsp=>?_) (fun _ _=>rfl) (by simp)
  hb (ok_one (by kernel_rfl) rfl (okWide_bool_mk Tryz.underlying4 _))⟩
 exact trodAll_mk4 (J.arg_stays (by kernel_rfl) (of_decide_eq_true (by kernel_rfl)) h0 hb (fun x hx=>by simp [hx]) hlt hsp) (J.arg_stays (by kernel_rfl) (of_decide_eq_true (by kernel_rfl)) h1 hb (fun x hx=>by simp [hx]) hlt hsp) (J.arg_stays (by kernel_rfl) (of_decide_eq_true (by kernel_rfl)) h2 hb (fun x hx=>by simp [hx]) hlt hsp) (J.arg_stays (by kernel_rfl) (of_decide_eq_true (by kernel_rfl)) h3 hb (fun x hx=>by simp [hx]) hlt hsp)
theorem over:Rows.topOneGrooveRow.holds Tryz.pinned (OpenSpec.ofChange Rows.topOneGrooveSpec) :=
 OpenClaim.holds_of_wide 3 Tryz.f3 rfl rfl rfl rfl rfl rfl rfl ⟨rfl,rfl,rfl,rfl,rfl⟩ rfl rfl rfl rfl rfl named Tryz.func3 closed inst wrap
  (fun os started H enc _=>lifted os started H enc)
theorem proved:Rows.TopOneGrooveSaid :=
 over
end Go.Proofs.YtibmeigdjghkcaaGreat.topOneGroove

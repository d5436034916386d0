/- The statement TopSureTurnsSaid: the law TopSureTurns returns true, and its arguments read as before. No conditions. -/
import Derived.Test.YtaihbcmifjmapaaGreatSuC
import Derived.Test.YtaihbcmifjmapaaGreatOpnS
import Derived.Test.YtaihbcmifjmapaaGreatRows
import Derived.ProofKit
import Derived.OpenShut
import Derived.Test.YtaihbcmifjmapaaGreatSuCJ
namespace Go.Proofs.YtaihbcmifjmapaaGreat.topSureTurns
open Go.RowKit Go.Shelf Go.Joins Go.ChangeShapes Go.WideShapes Go.ChangeAt Go.Deep
set_option linter.unusedVariables false
theorem own:ownKnob Tryz.prog.godebug=none:=by kernel_rfl
set_option maxRecDepth 100000 in
theorem lifted (os:Os) (started:os.Started) (H:Type) (enc:TypeId×Value→H) :
  ReturnsInHanded {} Tryz.checked os 3 .any (Rows.topSureTurnsSpec.pre6 enc Tryz.prog Tryz.f3 Rows.topSureTurnsRow.domain false) (Rows.topSureTurnsSpec.post enc Tryz.prog Tryz.f3 false true false false):=by
 refine returnsInHanded_of_change (C:=Tryz.checked) own started (by kernel_rfl) Tryz.func3
  (ChangeSpec.witness6 (enc:=enc) (C:=Tryz.checked) false ⟨#[],#[.agg #[.int .i64 0,.slice none 0 0],.int .u16 0,.agg #[.int .i64 0,.int .i64 0,.int .i64 0],.slice none 0 0,.int .u8 0],[]⟩ 8 (by kernel_rfl) (by kernel_rfl) (by kernel_rfl) (by kernel_rfl)) ?_
 intro W base args ds gs before hval0 hW hcnd _
 have hval:∀ (j:Nat) t v,Tryz.f3.params[j]? = some t→args[j]? = some v→Value.okWide Tryz.prog W .any base t v:=hval0
 have hW':=hW
 obtain ⟨p,q,hA0,hV,rfl,hfz,hnd⟩:=hW
 have hA:DataW.TrodAll enc Tryz.prog W 0 (fun _=>true) true Tryz.f3.params.toList args.toList ds p:=hA0
 rw [Tryz.params3] at hA hval
 obtain ⟨v0,v1,v2,v3,v4,d0,d1,d2,d3,d4,p0,p1,p2,p3,p4,rfl,rfl,rfl,h0,h1,h2,h3,h4⟩:=trodAll_five hA
 obtain ⟨rfl,rfl⟩:=trodVars_none hV
 clear hA0 hval0
 simp only [List.append_nil] at hW'
 have hlt:=fun x hx=>hW'.lt x hx
 obtain ⟨x0,y0⟩:=open_sheet (hval 0 _ _ rfl rfl) h0
 obtain ⟨x1,rfl⟩:=open_word (hval 1 _ _ rfl rfl) h1
 obtain ⟨x2,rfl⟩:=open_rule (hval 2 _ _ rfl rfl) h2
 obtain ⟨x3,y3⟩:=open_ths (hval 3 _ _ rfl rfl) h3
 obtain ⟨x4,rfl⟩:=open_byte (hval 4 _ _ rfl rfl) h4
 refine (topSure_ok v0 v3 x0.1 x0.2 x1 x2 x3 x4 W y0 y3).mono fun e W' ⟨he,hb⟩=>?_
 subst he
 refine ⟨_,rfl,last_of_below (pa:=p0++(p1++(p2++(p3++(p4))))) (pv:=[]) hW' (fun _ _ _=>(trodAll_cons_mk (shut_bool Tryz.underlying4 _) trodAll_mk0)) (fun sp hsp=>?_) (fun _ _=>rfl) (by simp)
  hb (ok_one (by kernel_rfl) rfl (okWide_bool_mk Tryz.underlying4 _))⟩
 exact ⟨p0,_,(arg_stays (by kernel_rfl) (of_decide_eq_true (by kernel_rfl)) h0 hb (fun x hx=>by simp [hx]) hlt hsp),trodAll_mk4 (arg_stays (by kernel_rfl) (of_decide_eq_true (by kernel_rfl)) h1 hb (fun x hx=>by simp [hx]) hlt hsp) (arg_stays (by kernel_rfl) (of_decide_eq_true (by kernel_rfl)) h2 hb (fun x hx=>by simp [hx]) hlt hsp) (arg_stays (by kernel_rfl) (of_decide_eq_true (by kernel_rfl)) h3 hb (fun x hx=>by simp [hx]) hlt hsp) (arg_stays (by kernel_rfl) (of_decide_eq_true (by kernel_rfl)) h4 hb (fun x hx=>by simp [hx]) hlt hsp),rfl⟩
theorem over:Rows.topSureTurnsRow.holds Tryz.pinned (OpenSpec.ofChange Rows.topSureTurnsSpec) :=
 OpenClaim.holds_of_wide 3 Tryz.f3 rfl rfl rfl rfl rfl rfl rfl ⟨rfl,rfl,rfl,rfl,rfl⟩ rfl rfl rfl rfl rfl named Tryz.func3 closed inst wrap
  (fun os started H enc _=>lifted os started H enc)
theorem proved:Rows.TopSureTurnsSaid :=
 over
end Go.Proofs.YtaihbcmifjmapaaGreat.topSureTurns

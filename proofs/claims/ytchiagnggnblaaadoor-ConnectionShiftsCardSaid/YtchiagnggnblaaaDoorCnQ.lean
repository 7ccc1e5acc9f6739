import Derived.Test.YtchiagnggnblaaaDoorCnP
set_option linter.all false
/- Chapter 21: the small example. -/
namespace Go.Proofs.YtchiagnggnblaaaDoor.Ac
open Go Go.Fw Go.Ov Go.Proofs.YtchiagnggnblaaaDoor.Fx
set_option maxRecDepth 16000 in
theorem f7_spec : PSpec P G 7 [] (.bool true) := by
  refine pspec_intro hT Tryd.func7 (by decide) rfl rfl (by kernel_rfl) rfl ?_
  refine Tri.seq (Tri.reg hT ?_)
  refine Tri.seq (Tri.reg hT ?_)
  refine .inl (.inl ⟨_, fun _ => rfl, f9_spec 100 1, ?_⟩)
  refine .inl (.inl ⟨_, fun _ => rfl, f9_spec 100 1, ?_⟩)
  refine .inl (.inr (.inr ⟨_, (by exact fun _ => rfl), (f8_spec lH lH ⟨rfl, rfl, rfl, rfl⟩ ⟨rfl, rfl, rfl, rfl⟩), ?_⟩))
  refine Tri.seq ?_
  refine Tri.seq (Tri.reg hT ?_)
  refine (Tri.cond ⟨fun h1 => ?_, fun h1 => ?_⟩)
  · cases h1
  · refine (Tri.skip ?_)
    refine Tri.seq (Tri.reg hT ?_)
    refine .inl (.inl ⟨_, fun _ => rfl, f10_spec 100 300, ?_⟩)
    refine Tri.seq (Tri.drwM hT hm 17 [17] (by kernel_rfl) ?_)
    refine ⟨(by first | ((try simp only [decide_eq_true_eq, decide_eq_false_iff_not, toNat_cast] at *); omega) | decide), ?_⟩
    refine .inr (.inl ⟨_, _, (by exact ⟨rfl, trivial⟩), (CSpec.ofH (u := [(3, cnC 0 lH lH .nilp .nilp, some (cnC 1 lH1 lH .nilp .nilp))]) (FSpec.at lvA [3] (by decide) rfl rfl rfl rfl)), (by rfl), ?_⟩)
    refine ⟨(by first | ((try simp only [decide_eq_true_eq, decide_eq_false_iff_not, toNat_cast] at *); omega) | decide), ?_⟩
    refine .inr (.inl ⟨_, _, (by exact ⟨rfl, trivial⟩), (CSpec.ofH (u := [(3, cnC 1 lH1 lH .nilp .nilp, some (cnC 2 lH1 lH2 .nilp .nilp))]) (FSpec.at lvB [3] (by decide) rfl rfl rfl rfl)), (by rfl), ?_⟩)
    refine ⟨(by first | ((try simp only [decide_eq_true_eq, decide_eq_false_iff_not, toNat_cast] at *); omega) | decide), ?_⟩
    refine ⟨by kernel_rfl, ?_⟩
    refine ⟨_, Le.refl _, .inl (.inr (OpTri.hcall 500 rfl rfl rfl (FSpec.at lvC [3] (by decide) rfl rfl rfl rfl) trivial ⟨rfl, trivial⟩ rfl ?_))⟩
    refine Tri.le ⟨113, 0, 600, [(1, .loc 3 0), (3, .list evT []), (4, .list evT []), (5, .list evT [(1, 1, 0, 0, [], ())])], cnU lv3 3 304 305, G⟩ (Le.weakX rfl rfl rfl rfl ⟨rfl, rfl, rfl, rfl, trivial⟩ ⟨⟨_, rfl, Conv.conX lv3 304 305⟩, ⟨_, rfl, Conv.strX _⟩, ⟨_, rfl, Conv.strX _⟩, trivial⟩) ?_
    refine Tri.seq (Tri.regM hT [1] ?_)
    refine ⟨_, Le.refl _, .inl (.inr (OpTri.hcall 1 rfl rfl rfl (lvV 3 304 305 (by decide)) trivial ⟨rfl, rfl, rfl, trivial⟩ rfl ?_))⟩
    refine Tri.seq (Tri.regM hT [2] ?_)
    refine ⟨_, Le.refl _, .inl (.inr (OpTri.hcall 1 rfl rfl rfl (FSpec.le (lvD 3 304 305 (by decide)) ⟨rfl, rfl, ⟨rfl, rfl, rfl, rfl, rfl, rfl, rfl, rfl, rfl, trivial⟩, trivial⟩) trivial ⟨rfl, rfl, rfl, trivial⟩ rfl ?_))⟩
    refine Tri.seq (Tri.regM hT [1] ?_)
    refine ⟨_, Le.refl _, .inl (.inr (OpTri.hcall 1 rfl rfl rfl (lvS4 3 304 305 (by decide)) trivial ⟨rfl, rfl, rfl, trivial⟩ rfl ?_))⟩
    refine Tri.seq (Tri.regM hT [2] ?_)
    refine ⟨_, Le.refl _, .inl (.inr (OpTri.hcall 1 rfl rfl rfl (FSpec.le (lvE 3 304 305 (by decide)) ⟨rfl, rfl, ⟨rfl, rfl, rfl, rfl, rfl, rfl, rfl, rfl, rfl, trivial⟩, trivial⟩) trivial ⟨rfl, rfl, rfl, trivial⟩ rfl ?_))⟩
    refine Tri.seq ?_
    refine Tri.seq (Tri.reg hT ?_)
    refine ⟨_, [], trivial, rfl, rfl, fun h => ⟨rfl, rfl, rfl⟩, ?_⟩
    refine ⟨_, [], trivial, rfl, rfl, fun h => ⟨h, rfl, rfl, rfl⟩, ?_⟩
    refine ⟨_, [], trivial, rfl, rfl, fun h => ⟨h, rfl, rfl, rfl⟩, ?_⟩
    refine ⟨⟨fun _ => trivial, fun hc => (gn hc)⟩, ?_⟩
    refine ⟨_, [], trivial, rfl, rfl, fun h => ⟨rfl, rfl, rfl⟩, ?_⟩
    refine ⟨_, [], trivial, rfl, rfl, fun h => ⟨h, rfl, rfl, rfl⟩, ?_⟩
    refine ⟨_, [], trivial, rfl, rfl, fun h => ⟨h, rfl, rfl, rfl⟩, ?_⟩
    refine ⟨⟨fun _ => trivial, fun hc => (gn hc)⟩, ?_⟩
    refine ⟨_, [], trivial, rfl, rfl, fun h => ⟨rfl, rfl, rfl⟩, ?_⟩
    refine ⟨_, [], trivial, rfl, rfl, fun h => ⟨h, (by first | ((try simp only [decide_eq_true_eq, decide_eq_false_iff_not, toNat_cast] at *); omega) | decide), rfl, rfl, rfl⟩, ?_⟩
    refine ⟨_, [], trivial, rfl, rfl, fun h => ⟨h, rfl, rfl, rfl⟩, ?_⟩
    refine ⟨_, [], trivial, rfl, rfl, fun h => ⟨h, rfl, rfl, rfl⟩, ?_⟩
    refine ⟨_, [], trivial, rfl, rfl, fun h => ⟨h, rfl, rfl, rfl⟩, ?_⟩
    refine ⟨⟨fun _ => trivial, fun hc => (gn hc)⟩, ?_⟩
    refine ⟨_, [], trivial, rfl, rfl, fun h => ⟨rfl, rfl, rfl⟩, ?_⟩
    refine ⟨_, [], trivial, rfl, rfl, fun h => ⟨h, rfl, rfl, rfl⟩, ?_⟩
    refine ⟨_, [], trivial, rfl, rfl, fun h => ⟨h, rfl, rfl, rfl⟩, ?_⟩
    refine ⟨⟨fun _ => trivial, fun hc => (gn hc)⟩, ?_⟩
    refine ⟨_, [], trivial, rfl, rfl, fun h => ⟨rfl, rfl, rfl⟩, ?_⟩
    refine ⟨_, [], trivial, rfl, rfl, fun h => ⟨h, rfl, rfl, rfl⟩, ?_⟩
    refine ⟨_, [], trivial, rfl, rfl, fun h => ⟨h, rfl, rfl, rfl⟩, ?_⟩
    refine ⟨⟨fun _ => trivial, fun hc => (gn hc)⟩, ?_⟩
    refine ⟨_, [], trivial, rfl, rfl, fun h => ⟨rfl, rfl, rfl⟩, ?_⟩
    refine ⟨_, [], trivial, rfl, rfl, fun h => ⟨h, rfl, rfl, rfl⟩, ?_⟩
    refine ⟨_, [], trivial, rfl, rfl, fun h => ⟨h, rfl, rfl, rfl⟩, ?_⟩
    refine ⟨⟨fun _ => trivial, fun hc => (gn hc)⟩, ?_⟩
    refine ⟨_, [], trivial, rfl, rfl, fun h => ⟨rfl, rfl, rfl⟩, ?_⟩
    refine ⟨_, [], trivial, rfl, rfl, fun h => ⟨h, rfl, rfl, rfl⟩, ?_⟩
    refine ⟨_, [], trivial, rfl, rfl, fun h => ⟨h, rfl, rfl, rfl⟩, ?_⟩
    refine ⟨⟨fun _ => trivial, fun hc => (gn hc)⟩, ?_⟩
    refine ⟨_, [], trivial, rfl, rfl, fun h => ⟨rfl, rfl, rfl⟩, ?_⟩
    refine ⟨_, [], trivial, rfl, rfl, fun h => ⟨h, rfl, rfl, rfl⟩, ?_⟩
    refine ⟨⟨fun _ => trivial, fun hc => (gn hc)⟩, ?_⟩
    refine ⟨_, [], trivial, rfl, rfl, fun h => ⟨rfl, rfl, rfl⟩, ?_⟩
    refine ⟨_, [], trivial, rfl, rfl, fun h => ⟨h, rfl, rfl, rfl⟩, ?_⟩
    refine ⟨_, [], trivial, rfl, rfl, fun h => ⟨h, rfl, rfl, rfl⟩, ?_⟩
    refine ⟨⟨fun _ => trivial, fun hc => (gn hc)⟩, ?_⟩
    refine (Tri.cond ⟨fun h2 => ?_, fun h2 => ?_⟩)
    · exact absurd h2 (by decide)
    · refine (Tri.skip ?_)
      refine Tri.seq (Tri.regM hT [6, 7, 8, 11, 12, 13, 16, 17, 18] ?_)
      refine ⟨(by first | ((try simp only [decide_eq_true_eq, decide_eq_false_iff_not, toNat_cast] at *); omega) | decide), ?_⟩
      refine ⟨_, Le.refl _, .inr (.inl ⟨_, rfl, rfl, .inl ?_⟩)⟩
      refine ⟨_, Le.refl _, .inr (.inl ⟨_, rfl, rfl, .inr (OpTri.hcall 1 rfl rfl rfl (lvT5 3 304 305 (by decide)) trivial ⟨rfl, rfl, rfl, trivial⟩ rfl ?_)⟩)⟩
      refine ⟨_, Le.refl _, .inr (.inl ⟨_, rfl, rfl, .inl ?_⟩)⟩
      refine ⟨⟨fun _ => trivial, fun _ => trivial⟩, ?_⟩
      refine ⟨_, Le.refl _, .inr (.inl ⟨_, rfl, rfl, .inl ?_⟩)⟩
      refine ⟨_, Le.refl _, .inr (.inl ⟨_, rfl, rfl, .inr (OpTri.hcall 1 rfl rfl rfl (lvO5 3 304 305 (by decide)) trivial ⟨rfl, rfl, rfl, trivial⟩ rfl ?_)⟩)⟩
      refine ⟨_, Le.refl _, .inr (.inl ⟨_, rfl, rfl, .inl ?_⟩)⟩
      refine ⟨⟨fun _ => trivial, fun _ => trivial⟩, ?_⟩
      refine ⟨_, Le.refl _, .inr (.inl ⟨_, rfl, rfl, .inl ?_⟩)⟩
      refine ⟨_, Le.refl _, .inr (.inl ⟨_, rfl, rfl, .inr (OpTri.hcall 1 rfl rfl rfl (lvS5 3 304 305 (by decide)) trivial ⟨rfl, rfl, rfl, trivial⟩ rfl ?_)⟩)⟩
      refine ⟨_, Le.refl _, .inr (.inl ⟨_, rfl, rfl, .inl ?_⟩)⟩
      refine ⟨⟨fun _ => trivial, fun _ => trivial⟩, ?_⟩
      refine Tri.ret ?_
      exact ⟨rfl, trivial⟩
end Go.Proofs.YtchiagnggnblaaaDoor.Ac

/- Chapter 15: the statement OverlapCuts. -/
import Derived.Test.YtjdjgabahkcjeaaOvL
import Derived.Test.YtjdjgabahkcjeaaOv8
set_option linter.all false
namespace Go.Proofs.Ytjdjgabahkcjeaa.Fx
open Go Go.Fw Go.Ov
theorem gdf {b : Bool} (h : gd b false = true) : b = false := by cases b <;> simp_all [gd]
theorem guard2o {a b : Bool} (h : (if (!a) = true then true else !b) = false) : a = true ∧ b = true := by
  cases a <;> cases b <;> simp_all
theorem cuts_end {l : List Pc} {a : Int} (k : CutsOk l a) : (if decide (((cutL l (takeF l a).2).length : Int) = 0) = true then true else
    if decide (((cutL l (takeF l a).2).getD (Int.toNat 0) (Ty.dflt pT)).1 ≥ a) = true then (if decide ((takeF l a).1 = []) = true then true else
      decide (IntKind.i64.wrap (((cutL l (takeF l a).2).getD (Int.toNat 0) (Ty.dflt pT)).1 - a) > ((takeF l a).1.length : Int))) else false) = true := by
  cases hr : cutL l (takeF l a).2 with
  | nil => rfl
  | cons q r =>
    obtain ⟨h1, h2⟩ := k.beyond q r hr
    have h1' : q.1 ≥ a := h1
    have e : ((q :: r).getD (Int.toNat 0) (Ty.dflt pT)) = q := rfl
    rw [e, if_neg (by simp; omega), if_pos (decide_eq_true h1')]
    by_cases hs : (takeF l a).1 = []
    · rw [if_pos (decide_eq_true hs)]
    · obtain ⟨h3, h4, h5⟩ := h2 hs
      have h4' : ((takeF l a).1.length : Int) < q.1 - a := h4
      have h5' : q.1 ≤ 4294967296 := h5
      rw [if_neg (by simpa using hs), wrapId (by omega)]
      exact decide_eq_true (by omega)
theorem f8_spec (l : List Pc) (a : Int) (hg : l.length ≤ 140737488355328) : PSpec P [] 8 [.list pT l, .int .i64 a] (.bool true) := by
  refine pspec_intro hT Try.func8 (by decide) rfl rfl (by kernel_rfl) rfl ?_
  refine Tri.seq (Tri.reg hT ?_)
  refine Tri.seq ?_
  refine Tri.seq (Tri.reg hT ?_)
  refine .inl (.inl ⟨_, fun _ => rfl, f12_spec, ?_⟩)
  refine (Tri.cond ⟨fun h1 => ?_, fun h1 => ?_⟩)
  · exact absurd h1 (by simp)
  · refine (Tri.skip ?_)
    refine Tri.seq ?_
    refine Tri.seq (Tri.reg hT ?_)
    refine .inl (.inl ⟨_, fun _ => rfl, f13_spec l 40 300 hg (by decide) (by decide) (by decide) (by decide), ?_⟩)
    refine ⟨_, [], trivial, rfl, rfl, fun h => ⟨rfl, rfl, rfl⟩, ?_⟩
    refine ⟨_, [], trivial, rfl, rfl, fun h => ⟨h, (.inl ⟨_, fun _ => rfl, f18_spec l (by have := few_of (many := 40) (most := 300) (ngd h); omega), rfl, rfl, rfl⟩)⟩, ?_⟩
    refine ⟨_, [], trivial, rfl, rfl, fun h => ⟨h, rfl, rfl, rfl⟩, ?_⟩
    refine ⟨⟨fun _ => trivial, fun hc => (gn hc)⟩, ?_⟩
    refine (Tri.cond ⟨fun h2 => ?_, fun h2 => ?_⟩)
    · refine Tri.seq (Tri.reg hT ?_)
      refine Tri.ret ?_
      exact ⟨rfl, trivial⟩
    · refine (Tri.skip ?_)
      have g := guard2o h2; have hf := few_of (many := 40) (most := 300) g.1; have hv : Valid l := of_decide_eq_true g.2; have ht := takeF_len (l := l) a; have k := cutsOk hv a; have l1 := cutL_len l a; have l2 := cutL_len l (takeF l a).2; have s0 := lenSum_nonneg (cutL l (takeF l a).2); have s1 : lenSum (cutL l a) ≤ lenSum l := (by rw [lenSum_cells, lenSum_cells, cells_cutL hv]; exact Int.ofNat_le.2 (List.length_filter_le _ _)); have e1 := takeF_cutL hv a; have ks := k.size
      refine Tri.seq (Tri.reg hT ?_)
      refine .inl (.inl ⟨_, fun _ => rfl, f21_spec l a (by omega) (valid_inB hv), ?_⟩)
      refine Tri.seq (Tri.reg hT ?_)
      refine .inl (.inl ⟨_, fun _ => rfl, f19_spec l a (by omega) (valid_inB hv) (by omega), ?_⟩)
      refine Tri.seq (Tri.reg hT ?_)
      refine .inl (.inl ⟨_, fun _ => rfl, (by have := f19_spec (cutL l a) a (by omega) (valid_inB k.c) (by omega); rw [e1, k.same] at this; exact this), ?_⟩)
      refine Tri.seq ?_
      refine Tri.seq (Tri.reg hT ?_)
      refine .inl (.inl ⟨_, fun _ => rfl, f18_spec _ (by omega), ?_⟩)
      refine ⟨_, [], trivial, rfl, rfl, fun h => ⟨rfl, rfl, rfl⟩, ?_⟩
      refine ⟨_, [], trivial, rfl, rfl, fun h => ⟨h, (.inl ⟨_, fun _ => rfl, f18_spec _ (by omega), rfl, rfl, rfl⟩)⟩, ?_⟩
      refine ⟨_, [], trivial, rfl, rfl, fun h => ⟨h, rfl, rfl, rfl⟩, ?_⟩
      refine ⟨⟨fun _ => trivial, fun hc => (gn hc)⟩, ?_⟩
      refine ⟨_, [], trivial, rfl, rfl, fun h => ⟨rfl, rfl, rfl⟩, ?_⟩
      refine ⟨_, [], trivial, rfl, rfl, fun h => ⟨rfl, rfl, rfl⟩, ?_⟩
      refine ⟨_, [], trivial, rfl, rfl, fun h => ⟨h, h, rfl, rfl, rfl⟩, ?_⟩
      refine ⟨⟨fun _ => trivial, fun hc => (gn hc)⟩, ?_⟩
      refine ⟨_, [], trivial, rfl, rfl, fun h => ⟨rfl, rfl, rfl⟩, ?_⟩
      refine ⟨_, [], trivial, rfl, rfl, fun h => ⟨rfl, rfl, rfl⟩, ?_⟩
      refine ⟨_, [], trivial, rfl, rfl, fun h => ⟨h, h, (.inl ⟨_, fun _ => rfl, f17_spec _ _ (by omega), rfl, rfl, rfl⟩)⟩, ?_⟩
      refine ⟨_, [], trivial, rfl, rfl, fun h => ⟨h, rfl, rfl, rfl⟩, ?_⟩
      refine ⟨⟨fun _ => trivial, fun hc => (gn hc)⟩, ?_⟩
      refine ⟨_, [], trivial, rfl, rfl, fun h => ⟨rfl, rfl, rfl⟩, ?_⟩
      refine ⟨_, [], trivial, rfl, rfl, fun h => ⟨h, (.inl ⟨_, fun _ => rfl, f23_spec _ (by omega) (by omega), rfl, rfl, rfl⟩)⟩, ?_⟩
      refine ⟨_, [], trivial, rfl, rfl, fun h => ⟨rfl, rfl, rfl⟩, ?_⟩
      refine ⟨_, [], trivial, rfl, rfl, fun h => ⟨h, rfl, rfl, rfl⟩, ?_⟩
      refine ⟨_, [], trivial, rfl, rfl, fun h => ⟨rfl, rfl, rfl⟩, ?_⟩
      refine ⟨_, [], trivial, rfl, rfl, fun h => ⟨h, (.inl ⟨_, fun _ => rfl, f23_spec _ (by omega) (by omega), rfl, rfl, rfl⟩)⟩, ?_⟩
      refine ⟨_, [], trivial, rfl, rfl, fun h => ⟨h, h, rfl, rfl, rfl⟩, ?_⟩
      refine ⟨_, [], trivial, rfl, rfl, fun h => ⟨h, h, rfl, rfl, rfl⟩, ?_⟩
      refine ⟨⟨fun _ => trivial, fun hc => (gn hc)⟩, ?_⟩
      refine ⟨_, [], trivial, rfl, rfl, fun h => ⟨rfl, rfl, rfl⟩, ?_⟩
      refine ⟨_, [], trivial, rfl, rfl, fun h => ⟨rfl, rfl, rfl⟩, ?_⟩
      refine ⟨_, [], trivial, rfl, rfl, fun h => ⟨h, h, (.inl ⟨_, fun _ => rfl, (by have := f21_spec (cutL l a) a (by omega) (valid_inB k.c); rw [k.again] at this; exact this), rfl, rfl, rfl⟩)⟩, ?_⟩
      refine ⟨_, [], trivial, rfl, rfl, fun h => ⟨rfl, rfl, rfl⟩, ?_⟩
      refine ⟨_, [], trivial, rfl, rfl, fun h => ⟨h, h, (.inl ⟨_, fun _ => rfl, f17_spec _ _ (by omega), rfl, rfl, rfl⟩)⟩, ?_⟩
      refine ⟨_, [], trivial, rfl, rfl, fun h => ⟨h, rfl, rfl, rfl⟩, ?_⟩
      refine ⟨⟨fun _ => trivial, fun hc => (gn hc)⟩, ?_⟩
      refine (Tri.cond ⟨fun h3 => ?_, fun h3 => ?_⟩)
      · exact absurd h3 (by have w : IntKind.i64.wrap (((takeF l a).1.length : Int) + lenSum (cutL l (takeF l a).2)) = lenSum (cutL l a) := (by rw [wrapId (by omega)]; omega); simp [k.c, k.rest, w])
      · refine (Tri.skip ?_)
        refine Tri.seq (Tri.reg hT ?_)
        refine ⟨_, [], trivial, rfl, rfl, fun h => ⟨rfl, rfl, rfl⟩, ?_⟩
        refine ⟨_, [], trivial, rfl, rfl, fun h => ⟨h, (by have := of_decide_eq_false (gdf h); omega), rfl, rfl, rfl⟩, ?_⟩
        refine ⟨_, [], trivial, rfl, rfl, fun h => ⟨h, rfl, rfl, rfl⟩, ?_⟩
        refine ⟨_, [], trivial, rfl, rfl, fun h => ⟨h, rfl, rfl, rfl⟩, ?_⟩
        refine ⟨_, [], trivial, rfl, rfl, fun h => ⟨rfl, rfl, rfl⟩, ?_⟩
        refine ⟨_, [], trivial, rfl, rfl, fun h => ⟨h, h, rfl, rfl, rfl⟩, ?_⟩
        refine ⟨_, [], trivial, rfl, rfl, fun h => ⟨h, rfl, rfl, rfl⟩, ?_⟩
        refine ⟨_, [], trivial, rfl, rfl, fun h => ⟨rfl, rfl, rfl⟩, ?_⟩
        refine ⟨_, [], trivial, rfl, rfl, fun h => ⟨h, rfl, rfl, rfl⟩, ?_⟩
        refine ⟨_, [], trivial, rfl, rfl, fun h => ⟨h, rfl, rfl, rfl⟩, ?_⟩
        refine ⟨_, [], trivial, rfl, rfl, fun h => ⟨rfl, rfl, rfl⟩, ?_⟩
        refine ⟨_, [], trivial, rfl, rfl, fun h => ⟨h, (by have := of_decide_eq_false (gdf (gl (gl h))); omega), rfl, rfl, rfl⟩, ?_⟩
        refine ⟨_, [], trivial, rfl, rfl, fun h => ⟨h, rfl, rfl, rfl⟩, ?_⟩
        refine ⟨_, [], trivial, rfl, rfl, fun h => ⟨h, rfl, rfl, rfl⟩, ?_⟩
        refine ⟨_, [], trivial, rfl, rfl, fun h => ⟨rfl, rfl, rfl⟩, ?_⟩
        refine ⟨_, [], trivial, rfl, rfl, fun h => ⟨h, h, rfl, rfl, rfl⟩, ?_⟩
        refine ⟨_, [], trivial, rfl, rfl, fun h => ⟨rfl, rfl, rfl⟩, ?_⟩
        refine ⟨_, [], trivial, rfl, rfl, fun h => ⟨h, rfl, rfl, rfl⟩, ?_⟩
        refine ⟨_, [], trivial, rfl, rfl, fun h => ⟨h, h, rfl, rfl, rfl⟩, ?_⟩
        refine ⟨_, [], trivial, rfl, rfl, fun h => ⟨h, ⟨fun _ => trivial, fun hc => ga h (gn hc)⟩, rfl, rfl, rfl⟩, ?_⟩
        refine ⟨_, [], trivial, rfl, rfl, fun h => ⟨h, ⟨fun hc => ga h hc, fun _ => trivial⟩, rfl, rfl, rfl⟩, ?_⟩
        refine ⟨⟨fun _ => trivial, fun hc => (gn hc)⟩, ?_⟩
        refine Tri.ret ?_
        exact ⟨congrArg AV.bool (cuts_end k), trivial⟩
end Go.Proofs.Ytjdjgabahkcjeaa.Fx

import Derived.Test.YtchiagnggnblaaaDoorCnSa
import Derived.Test.YtchiagnggnblaaaDoorCnT
import Derived.Test.YtchiagnggnblaaaDoorGFw12
set_option linter.all false
/- Chapter 21: equal lists are the same; a segment, by what it leaves. -/
namespace Go.Proofs.YtchiagnggnblaaaDoor.Ac
open Go Go.Fw Go.Ov Go.Proofs.YtchiagnggnblaaaDoor.Fx
theorem f17_self (l : List Evt) (hl : l.length ≤ 1000) : PSpec P G 17 [.list evT l, .list evT l] (.bool true) := by
  refine pspec_intro hT Tryd.func17 (by decide) rfl rfl (by kernel_rfl) rfl ?_
  refine Tri.seq (Tri.reg hT ?_)
  refine Tri.seq ?_
  refine Tri.seq (Tri.reg hT ?_)
  refine (Tri.cond ⟨fun h1 => ?_, fun h1 => ?_⟩)
  · exact absurd h1 (by simp)
  · refine (Tri.skip ?_)
    refine Tri.seq ?_
    refine Tri.seq (Tri.reg hT ?_)
    refine (Tri.block ?_)
    refine (Tri.loop (ι := Nat) (fun i => ⟨26, 0, 0, [(0, .list evT l), (1, .list evT l), (5, .int .i64 (i : Int))], [], G⟩) (fun i => i ≤ l.length) (fun i => l.length - i) (0) ?_ ?_ ?_)
    · exact Nat.zero_le _
    · exact Le.weak rfl rfl rfl rfl ⟨(by first | rfl | exact iv1 (by (try simp only [decide_eq_true_eq, decide_eq_false_iff_not, toNat_cast] at *); omega)), (by first | rfl | exact iv1 (by (try simp only [decide_eq_true_eq, decide_eq_false_iff_not, toNat_cast] at *); omega)), (by first | rfl | exact iv1 (by (try simp only [decide_eq_true_eq, decide_eq_false_iff_not, toNat_cast] at *); omega)), trivial⟩ trivial
    · intro i hi
      refine Tri.seq ?_
      refine Tri.seq (Tri.reg hT ?_)
      refine (Tri.cond ⟨fun h2 => ?_, fun h2 => ?_⟩)
      · refine (Tri.skip ?_)
        refine Tri.seq (Tri.block ?_)
        refine Tri.seq (Tri.drw hT hm 9 (by kernel_rfl) ?_)
        refine ⟨(by first | ((try simp only [decide_eq_true_eq, decide_eq_false_iff_not, toNat_cast] at *); omega) | decide), ?_⟩
        refine ⟨(by first | ((try simp only [decide_eq_true_eq, decide_eq_false_iff_not, toNat_cast] at *); omega) | decide), ?_⟩
        refine ⟨by kernel_rfl, ?_⟩
        refine (Tri.cond ⟨fun h3 => ?_, fun h3 => ?_⟩)
        · exact absurd h3 (by simp)
        · refine (Tri.skip ?_)
          refine (Tri.reg hT ?_)
          have h2' := of_decide_eq_true h2
          exact ⟨i + 1, (show i + 1 ≤ l.length by omega), by (try simp only [decide_eq_true_eq, decide_eq_false_iff_not, toNat_cast] at *); omega, Le.weak rfl rfl rfl rfl ⟨(by first | rfl | exact iv1 (by (try simp only [decide_eq_true_eq, decide_eq_false_iff_not, toNat_cast] at *); omega)), (by first | rfl | exact iv1 (by (try simp only [decide_eq_true_eq, decide_eq_false_iff_not, toNat_cast] at *); omega)), (by first | rfl | exact iv1 (by (try simp only [decide_eq_true_eq, decide_eq_false_iff_not, toNat_cast] at *); omega)), trivial⟩ trivial⟩
      · refine Tri.exit ?_
        refine Tri.seq (Tri.reg hT ?_)
        refine Tri.ret ?_
        exact ⟨rfl, trivial⟩
theorem seg_n {c : Cnn} {f : FuncId} {args : List AV} {ret : AV} {c' : Cnn} {i j k : Nat} (hn : [i, j, k].Nodup) (h : HSpec P G f args (cnU c i j k) ret (cnU c' i j k)) {st : Int} {p g : Hf} (e : c' = ⟨st, p, g, none⟩) :
    HSpec P G f args (cnU c i j k) ret [(i, .box (cnC st p g .nilp .nilp)), (j, .ext (strX none)), (k, .ext (strX none))] := by
  subst e
  have hd : i ≠ j ∧ i ≠ k ∧ j ≠ k := by simp at hn; omega
  refine HSpec.conv h some (fun n d hd' => ⟨d, hd', Conv.refl d⟩) (fun φ R w hh n d hd' => ?_) (fun n a ha hc => ?_) (fun _ _ _ h1 h2 => by rw [Option.some.inj h1, Option.some.inj h2]) (fun _ _ _ _ h => h) (fun n d hd' hfx => ?_)
  · rcases lk3' hd' with ⟨e, e2⟩ | ⟨e, e2⟩ | ⟨e, e2⟩
    · rw [e, e2]; exact Conv.conB ⟨st, p, g, none⟩ j k _ _ _ _ (hh.rel i _ (lkA ..))
    · rw [e, e2]; exact hh.rel j _ (lkB hd.1 ..)
    · rw [e, e2]; exact hh.rel k _ (lkC hd.2.1 hd.2.2 ..)
  · simp only [Option.some.injEq] at ha
    subst ha
    obtain ⟨d, hd'⟩ := hc
    rcases lk3' hd' with ⟨e, e2⟩ | ⟨e, e2⟩ | ⟨e, e2⟩
    · rw [e]; exact ⟨_, lkA ..⟩
    · rw [e]; exact ⟨_, lkB hd.1 ..⟩
    · rw [e]; exact ⟨_, lkC hd.2.1 hd.2.2 ..⟩
  · refine ⟨rfl, ⟨d, hd', hfx⟩, ?_⟩
    rcases lk3' hd' with ⟨e, e2⟩ | ⟨e, e2⟩ | ⟨e, e2⟩
    · rw [e]; exact ⟨_, lkA .., rfl⟩
    · rw [e2] at hfx; cases hfx
    · rw [e2] at hfx; cases hfx
theorem seg_s {c : Cnn} {f : FuncId} {args : List AV} {ret : AV} {c' : Cnn} {i j k : Nat} (hn : [i, j, k].Nodup) (h : HSpec P G f args (cnU c i j k) ret (cnU c' i j k)) {st : Int} {p g : Hf} {s t : SS} (e : c' = ⟨st, p, g, some (s, t)⟩) :
    HSpec P G f args (cnU c i j k) ret [(i, .box (cnC st p g (.loc j 0) (.loc k 0))), (j, .box (bxS s)), (k, .box (bxS t))] := by
  subst e
  have hd : i ≠ j ∧ i ≠ k ∧ j ≠ k := by simp at hn; omega
  refine HSpec.conv h some (fun n d hd' => ⟨d, hd', Conv.refl d⟩) (fun φ R w hh n d hd' => ?_) (fun n a ha hc => ?_) (fun _ _ _ h1 h2 => by rw [Option.some.inj h1, Option.some.inj h2]) (fun _ _ _ _ h => h) (fun n d hd' hfx => ?_)
  · rcases lk3' hd' with ⟨e, e2⟩ | ⟨e, e2⟩ | ⟨e, e2⟩
    · rw [e, e2]; exact Conv.conB ⟨st, p, g, some (s, t)⟩ j k _ _ _ _ (hh.rel i _ (lkA ..))
    · rw [e, e2]; exact Conv.strB s _ _ _ _ (hh.rel j _ (lkB hd.1 ..))
    · rw [e, e2]; exact Conv.strB t _ _ _ _ (hh.rel k _ (lkC hd.2.1 hd.2.2 ..))
  · simp only [Option.some.injEq] at ha
    subst ha
    obtain ⟨d, hd'⟩ := hc
    rcases lk3' hd' with ⟨e, e2⟩ | ⟨e, e2⟩ | ⟨e, e2⟩
    · rw [e]; exact ⟨_, lkA ..⟩
    · rw [e]; exact ⟨_, lkB hd.1 ..⟩
    · rw [e]; exact ⟨_, lkC hd.2.1 hd.2.2 ..⟩
  · refine ⟨rfl, ⟨d, hd', hfx⟩, ?_⟩
    rcases lk3' hd' with ⟨e, e2⟩ | ⟨e, e2⟩ | ⟨e, e2⟩
    · rw [e]; exact ⟨_, lkA .., rfl⟩
    · rw [e2] at hfx; cases hfx
    · rw [e2] at hfx; cases hfx
end Go.Proofs.YtchiagnggnblaaaDoor.Ac

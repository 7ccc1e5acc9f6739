import Derived.Test.YtgbmbihajkjbmaaTlQ
set_option linter.all false
/- Contracts of chapter 32: TlsBuilds. -/
namespace Go.Proofs.Ytgbmbihajkjbmaa.Fx
open Go Go.Fw Go.Ov Go.Tl Go.Shelf
def LngP (l : List (List UInt8)) : Prop := (∃ i, i < l.length ∧ 20000 < (l.getD i []).length) ∨ 200 < l.length
noncomputable def lngB (l : List (List UInt8)) : Bool := @decide (LngP l) (Classical.propDecidable _)
theorem lng_t {l : List (List UInt8)} (h : LngP l) : lngB l = true := by unfold lngB; exact @decide_eq_true _ (Classical.propDecidable _) h
theorem lng_f {l : List (List UInt8)} (h : ¬ LngP l) : lngB l = false := by unfold lngB; exact @decide_eq_false _ (Classical.propDecidable _) h
theorem lng_of {l : List (List UInt8)} (h : lngB l = false) : ∀ i, i < l.length → (l.getD i []).length ≤ 20000 := fun i hi => by
  have k : ¬ LngP l := fun q => by rw [lng_t q] at h; cases h
  exact Nat.le_of_not_lt (fun q => k (.inl ⟨i, hi, q⟩))
theorem f10_spec (l : List (List UInt8)) : PSpec P [] 10 [.list .str l] (.bool (lngB l)) := by
  refine pspec_intro hT Try.func10 (by decide) rfl rfl (by kernel_rfl) rfl ?_
  refine Tri.seq (Tri.reg hT ?_)
  refine Tri.seq ?_
  refine Tri.seq (Tri.reg hT ?_)
  refine (Tri.block ?_)
  refine (Tri.loop (ι := Nat) (fun i => ⟨23, 0, 20, [(0, .list .str l), (3, .int .i64 (i : Int))], [], []⟩) (fun i => i ≤ l.length ∧ i ≤ 200 ∧ ∀ j, j < i → (l.getD j []).length ≤ 20000) (fun i => l.length - i) (0) ?_ ?_ ?_)
  · exact ⟨Nat.zero_le _, Nat.zero_le _, fun j hj => absurd hj (Nat.not_lt_zero j)⟩
  · exact Le.weak rfl rfl rfl rfl ⟨(by first | rfl | exact iv1 (by (try simp only [decide_eq_true_eq, decide_eq_false_iff_not, toNat_cast] at *); omega)), (by first | rfl | exact iv1 (by (try simp only [decide_eq_true_eq, decide_eq_false_iff_not, toNat_cast] at *); omega)), trivial⟩ trivial
  · intro i hi
    refine Tri.seq ?_
    refine Tri.seq (Tri.reg hT ?_)
    refine ⟨_, [], trivial, rfl, rfl, fun h => ⟨rfl, rfl, rfl⟩, ?_⟩
    refine ⟨_, [], trivial, rfl, rfl, fun h => ⟨h, rfl, rfl, rfl⟩, ?_⟩
    refine ⟨⟨fun hc => hc, fun _ => trivial⟩, ?_⟩
    refine (Tri.cond ⟨fun h1 => ?_, fun h1 => ?_⟩)
    · refine (Tri.skip ?_)
      refine Tri.seq (Tri.block ?_)
      have hlt : i < l.length ∧ i < 200 := (by rw [ifb, Bool.and_eq_true] at h1; have q1 := of_decide_eq_true h1.1; have q2 := of_decide_eq_true h1.2; omega); have w1 : IntKind.i64.wrap ((i : Int) + 1) = ((i + 1 : Nat) : Int) := (by rw [wrapId (by omega)]; omega)
      refine Tri.le (⟨23, 0, 40, [(0, .list .str l), (3, .int .i64 (i : Int))], [], []⟩) (Le.weak rfl rfl rfl rfl ⟨(by first | rfl | exact iv1 (by (try simp only [decide_eq_true_eq, decide_eq_false_iff_not, toNat_cast] at *); omega)), (by first | rfl | exact iv1 (by (try simp only [decide_eq_true_eq, decide_eq_false_iff_not, toNat_cast] at *); omega)), trivial⟩ trivial) ?_
      refine Tri.seq (Tri.reg hT ?_)
      refine ⟨by omega, ?_⟩
      refine (Tri.cond ⟨fun h2 => ?_, fun h2 => ?_⟩)
      · refine Tri.seq (Tri.reg hT ?_)
        refine Tri.ret ?_
        have q := of_decide_eq_true h2; rw [toNat_cast] at q; exact ⟨congrArg AV.bool (lng_t (.inl ⟨i, hlt.1, by change ((l.getD i []).length : Int) > 20000 at q; omega⟩)).symm, trivial⟩
      · refine (Tri.skip ?_)
        refine (Tri.reg hT ?_)
        exact ⟨i + 1, ⟨hlt.1, hlt.2, fun j hj => by rcases Nat.lt_succ_iff_lt_or_eq.1 hj with q | q; exact hi.2.2 j q; rw [q]; have q2 := of_decide_eq_false h2; rw [toNat_cast] at q2; change ¬ ((l.getD i []).length : Int) > 20000 at q2; omega⟩, (by omega), Le.weak rfl rfl rfl rfl ⟨(by first | rfl | exact iv1 (by (try simp only [decide_eq_true_eq, decide_eq_false_iff_not, toNat_cast] at *); omega)), congrArg (AV.int .i64) w1, trivial⟩ trivial⟩
    · refine Tri.exit ?_
      refine Tri.seq (Tri.reg hT ?_)
      refine Tri.ret ?_
      have hx : decide ((l.length : Int) > 200) = lngB l := (by by_cases q : 200 < l.length; rw [lng_t (.inr q)]; exact decide_eq_true (by omega); have hN : i = l.length := (by rw [ifb] at h1; rcases Bool.and_eq_false_iff.1 h1 with q1 | q1; have := of_decide_eq_false q1; have := hi.1; omega; have := of_decide_eq_false q1; have := hi.1; have := hi.2.1; omega); rw [lng_f (fun k => by rcases k with ⟨j, k1, k2⟩ | k; have := hi.2.2 j (by omega); omega; exact q k)]; exact decide_eq_false (by omega)); exact ⟨congrArg AV.bool hx, trivial⟩
set_option maxRecDepth 8000 in
theorem f4_spec (v : Int) (name : List UInt8) (l : List (List UInt8)) (n : Int) : PSpec P [] 4 [.int .i64 v, .str name, .list .str l, .int .i64 n] (.bool true) := by
  refine pspec_intro hT Try.func4 (by decide) rfl rfl (by kernel_rfl) rfl ?_
  refine Tri.seq (Tri.reg hT ?_)
  refine Tri.seq ?_
  refine Tri.seq (Tri.reg hT ?_)
  refine ⟨_, [], trivial, rfl, rfl, fun h => ⟨rfl, rfl, rfl⟩, ?_⟩
  refine ⟨_, [], trivial, rfl, rfl, fun h => ⟨h, rfl, rfl, rfl⟩, ?_⟩
  refine ⟨_, [], trivial, rfl, rfl, fun h => ⟨h, rfl, rfl, rfl⟩, ?_⟩
  refine ⟨⟨fun _ => trivial, fun hc => (gn hc)⟩, ?_⟩
  refine ⟨_, [], trivial, rfl, rfl, fun h => ⟨rfl, rfl, rfl⟩, ?_⟩
  refine ⟨_, [], trivial, rfl, rfl, fun h => ⟨h, (.inl ⟨_, fun _ => rfl, f10_spec l, rfl, rfl, rfl⟩)⟩, ?_⟩
  refine ⟨⟨fun _ => trivial, fun hc => (gn hc)⟩, ?_⟩
  refine (Tri.cond ⟨fun h1 => ?_, fun h1 => ?_⟩)
  · refine Tri.seq (Tri.reg hT ?_)
    refine .inl (.inl ⟨_, fun _ => rfl, f11_spec, ?_⟩)
    refine Tri.ret ?_
    exact ⟨rfl, trivial⟩
  · refine (Tri.skip ?_)
    rw [ifo, ifo, Bool.or_eq_false_iff, Bool.or_eq_false_iff] at h1; have hn : name.length ≤ 20000 := (by have := of_decide_eq_false h1.1.1; omega); have hl : l.length ≤ 10 := (by have := of_decide_eq_false h1.1.2; omega); have hb := lng_of h1.2; have c1 := client_same v hn; have c2 := server_same v; have c3 := chain_same hb
    refine Tri.seq (Tri.reg hT ?_)
    refine .inl (.inl ⟨_, fun _ => rfl, f17_spec v name (by omega), ?_⟩)
    refine .inl (.inl ⟨_, fun _ => rfl, f18_spec v name hn, ?_⟩)
    refine ⟨_, [], trivial, rfl, rfl, fun h => ⟨rfl, rfl, rfl⟩, ?_⟩
    refine ⟨_, [], trivial, rfl, rfl, fun h => ⟨h, (.inl ⟨_, fun _ => rfl, f19_spec v, rfl, rfl, rfl⟩)⟩, ?_⟩
    refine ⟨_, [], trivial, rfl, rfl, fun h => ⟨rfl, rfl, rfl⟩, ?_⟩
    refine ⟨_, [], trivial, rfl, rfl, fun h => ⟨h, (.inl ⟨_, fun _ => rfl, f20_spec v, rfl, rfl, rfl⟩)⟩, ?_⟩
    refine ⟨_, [], trivial, rfl, rfl, fun h => ⟨h, h, rfl, rfl, rfl⟩, ?_⟩
    refine ⟨⟨fun hc => hc, fun _ => trivial⟩, ?_⟩
    refine ⟨_, [], trivial, rfl, rfl, fun h => ⟨rfl, rfl, rfl⟩, ?_⟩
    refine ⟨_, [], trivial, rfl, rfl, fun h => ⟨h, (.inl ⟨_, fun _ => rfl, f21_spec l (by omega) (fun i hi => Nat.le_trans (hb i hi) (by decide)), rfl, rfl, rfl⟩)⟩, ?_⟩
    refine ⟨_, [], trivial, rfl, rfl, fun h => ⟨rfl, rfl, rfl⟩, ?_⟩
    refine ⟨_, [], trivial, rfl, rfl, fun h => ⟨h, (.inl ⟨_, fun _ => rfl, f22_spec l (by omega) hb, rfl, rfl, rfl⟩)⟩, ?_⟩
    refine ⟨_, [], trivial, rfl, rfl, fun h => ⟨h, h, rfl, rfl, rfl⟩, ?_⟩
    refine ⟨⟨fun hc => hc, fun _ => trivial⟩, ?_⟩
    refine ⟨_, [], trivial, rfl, rfl, fun h => ⟨rfl, rfl, rfl⟩, ?_⟩
    refine ⟨_, [], trivial, rfl, rfl, fun h => ⟨h, (.inl ⟨_, fun _ => rfl, f23_spec n, rfl, rfl, rfl⟩)⟩, ?_⟩
    refine ⟨_, [], trivial, rfl, rfl, fun h => ⟨rfl, rfl, rfl⟩, ?_⟩
    refine ⟨_, [], trivial, rfl, rfl, fun h => ⟨h, (.inl ⟨_, fun _ => rfl, f24_spec n, rfl, rfl, rfl⟩)⟩, ?_⟩
    refine ⟨_, [], trivial, rfl, rfl, fun h => ⟨h, h, rfl, rfl, rfl⟩, ?_⟩
    refine ⟨⟨fun hc => hc, fun _ => trivial⟩, ?_⟩
    refine ⟨_, [], trivial, rfl, rfl, fun h => (.inl ⟨_, fun _ => rfl, f11_spec, rfl, rfl, rfl⟩), ?_⟩
    refine ⟨⟨fun hc => hc, fun _ => trivial⟩, ?_⟩
    refine Tri.ret ?_
    exact ⟨congrArg AV.bool (by rw [c1, c2, c3]; simp), trivial⟩
end Go.Proofs.Ytgbmbihajkjbmaa.Fx

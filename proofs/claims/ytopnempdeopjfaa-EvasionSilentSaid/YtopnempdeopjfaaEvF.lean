import Derived.Test.YtopnempdeopjfaaEvA
import Derived.Test.YtopnempdeopjfaaGFw9
set_option linter.all false
/- Contracts of chapter 24: folding. -/
namespace Go.Proofs.Ytopnempdeopjfaa.Fx
open Go Go.Fw Go.Ov
theorem ifb (a b : Bool) : (if a = true then b else false) = (a && b) := by cases a <;> rfl
theorem runs_at (l : List Pc) : HSpec P [] 66 [.list pT l] [] (.fn 77 [.loc 0 0]) [(0, .box [.list pT l])] := by
  refine fspec_intro hT [] [(0, .box [.list pT l])] 0 0 Try.func66 (by decide) rfl rfl (by kernel_rfl) rfl rfl ?_
  refine Tri.seq (Tri.reg hT ?_)
  refine Tri.seq (Tri.reg hT ?_)
  refine Tri.ret ?_
  exact ⟨rfl, rfl, trivial⟩
theorem f66_spec (l : List Pc) (i : Nat) : HSpec P [] 66 [.list pT l] [] (.fn 77 [.loc i 0]) [(i, .box [.list pT l])] :=
  FSpec.at (runs_at l) [i] (by simp) rfl rfl rfl rfl
/-- What a round does with a run: it appends a piece. -/
def Folds (P : Program) (m q : Nat) (ps : Array Tmp) (assign body : Code) (fx nx : Nat) : Prop := ∀ (xs : List Pc) (a : Int) (s : List UInt8), xs.length ≤ 1000 → 0 ≤ a → a + s.length ≤ 4294967296 →
  BodyOK P m [(q, .loc 7 0)] ps assign body [.int .i64 a, .str s] [(7, .box [.own 100 xs.length]), (100, .arr pT xs)] [(7, .box [.own 100 (xs.length + 1)]), (100, .arr pT (xs ++ [(a, s, a, a + s.length, ())]))] fx nx
set_option maxRecDepth 8000 in
theorem f77_spec (m q fx nx : Nat) (ps : Array Tmp) (assign body : Code) (hB : Folds P m q ps assign body fx nx) (L : List Pc) (hv : Valid L) (hl : L.length ≤ 100) :
    HSpec P [] 77 [.ex (yieldV 50), .loc 11 0] [(50, .ext (loopX m [(q, .loc 7 0)] ps assign body)), (7, .box [.own 100 0]), (100, .arr pT []), (11, .box [.list pT L])] (.tup [])
      [(50, .ext (loopX m [(q, .loc 7 0)] ps assign body)), (7, .box [.own 100 (foldF L).length]), (100, .arr pT (foldF L)), (11, .box [.list pT L])] := by
  refine fspec_intro hT [(50, .ext (loopX m [(q, .loc 7 0)] ps assign body)), (7, .box [.own 100 0]), (100, .arr pT []), (11, .box [.list pT L])] [(50, .ext (loopX m [(q, .loc 7 0)] ps assign body)), (7, .box [.own 100 (foldF L).length]), (100, .arr pT (foldF L)), (11, .box [.list pT L])] 51 101 Try.func77 (by decide) rfl rfl (by kernel_rfl) rfl rfl ?_
  refine Tri.seq (Tri.reg hT ?_)
  refine (Tri.block ?_)
  refine (Tri.loop (ι := Nat × List Pc) (fun x => ⟨45, 51, 200, [(0, .ex (yieldV 50)), (1, .loc 11 0), (3, .int .i64 (x.1 : Int))], [(50, .ext (loopX m [(q, .loc 7 0)] ps assign body)), (7, .box [.own 100 x.2.length]), (100, .arr pT (x.2.map fin)), (11, .box [.list pT L])], []⟩) (fun x => RnAt L x.1 x.2) (fun x => L.length - x.1) ((0, [])) ?_ ?_ ?_)
  · exact rnZero L
  · exact Le.weak rfl rfl rfl rfl ⟨(by first | rfl | exact iv1 (by (try simp only [decide_eq_true_eq, decide_eq_false_iff_not, toNat_cast] at *); omega)), (by first | rfl | exact iv1 (by (try simp only [decide_eq_true_eq, decide_eq_false_iff_not, toNat_cast] at *); omega)), (by first | rfl | exact iv1 (by (try simp only [decide_eq_true_eq, decide_eq_false_iff_not, toNat_cast] at *); omega)), trivial⟩ ⟨rfl, rfl, rfl, rfl, trivial⟩
  · intro ⟨i, out⟩ hi; change RnAt L i out at hi; have hol := rnLen hi; have hiL := hi.1
    refine Tri.seq ?_
    refine Tri.seq (Tri.reg hT ?_)
    refine (Tri.cond ⟨fun h1 => ?_, fun h1 => ?_⟩)
    · refine (Tri.skip ?_)
      refine (Tri.block ?_)
      have hlt : i < L.length := (by have := of_decide_eq_true h1; omega)
      refine Tri.le (⟨45, 51, 210, [(0, .ex (yieldV 50)), (1, .loc 11 0), (3, .int .i64 (i : Int))], [(50, .ext (loopX m [(q, .loc 7 0)] ps assign body)), (7, .box [.own 100 out.length]), (100, .arr pT (out.map fin)), (11, .box [.list pT L])], []⟩) (Le.weak rfl rfl rfl rfl ⟨(by first | rfl | exact iv1 (by (try simp only [decide_eq_true_eq, decide_eq_false_iff_not, toNat_cast] at *); omega)), (by first | rfl | exact iv1 (by (try simp only [decide_eq_true_eq, decide_eq_false_iff_not, toNat_cast] at *); omega)), (by first | rfl | exact iv1 (by (try simp only [decide_eq_true_eq, decide_eq_false_iff_not, toNat_cast] at *); omega)), trivial⟩ ⟨rfl, rfl, rfl, rfl, trivial⟩) ?_
      refine Tri.seq (Tri.reg hT ?_)
      refine ⟨by omega, ?_⟩
      refine Tri.seq (Tri.block ?_)
      refine (Tri.loop (ι := Nat × List UInt8) (fun x => ⟨45, 51, 220, [(0, .ex (yieldV 50)), (1, .loc 11 0), (3, .int .i64 (x.1 : Int)), (4, .int .i64 (pa (L.getD i (Ty.dflt pT)))), (5, .str x.2)], [(50, .ext (loopX m [(q, .loc 7 0)] ps assign body)), (7, .box [.own 100 out.length]), (100, .arr pT (out.map fin)), (11, .box [.list pT L])], []⟩) (fun x => RnIn L out (pa (L.getD i (Ty.dflt pT))) i x.1 x.2) (fun x => L.length - x.1) ((i, [])) ?_ ?_ ?_)
      · exact rnStart hi hlt hv
      · exact Le.weak rfl rfl rfl rfl ⟨(by first | rfl | exact iv1 (by (try simp only [decide_eq_true_eq, decide_eq_false_iff_not, toNat_cast] at *); omega)), (by first | rfl | exact iv1 (by (try simp only [decide_eq_true_eq, decide_eq_false_iff_not, toNat_cast] at *); omega)), (by first | rfl | exact iv1 (by (try simp only [decide_eq_true_eq, decide_eq_false_iff_not, toNat_cast] at *); omega)), (by first | rfl | exact iv1 (by (try simp only [decide_eq_true_eq, decide_eq_false_iff_not, toNat_cast] at *); omega)), (by first | rfl | exact iv1 (by (try simp only [decide_eq_true_eq, decide_eq_false_iff_not, toNat_cast] at *); omega)), trivial⟩ ⟨rfl, rfl, rfl, rfl, trivial⟩
      · intro ⟨k, s⟩ hk; change RnIn L out (pa (L.getD i (Ty.dflt pT))) i k s at hk; have hkL := hk.2.1; have h0a := hk.2.2.1; have hend := hk.2.2.2.1
        refine Tri.seq ?_
        skip
        refine Tri.le (⟨45, 51, 230, [(0, .ex (yieldV 50)), (1, .loc 11 0), (3, .int .i64 (k : Int)), (4, .int .i64 (pa (L.getD i (Ty.dflt pT)))), (5, .str s)], [(50, .ext (loopX m [(q, .loc 7 0)] ps assign body)), (7, .box [.own 100 out.length]), (100, .arr pT (out.map fin)), (11, .box [.list pT L])], []⟩) (Le.weak rfl rfl rfl rfl ⟨(by first | rfl | exact iv1 (by (try simp only [decide_eq_true_eq, decide_eq_false_iff_not, toNat_cast] at *); omega)), (by first | rfl | exact iv1 (by (try simp only [decide_eq_true_eq, decide_eq_false_iff_not, toNat_cast] at *); omega)), (by first | rfl | exact iv1 (by (try simp only [decide_eq_true_eq, decide_eq_false_iff_not, toNat_cast] at *); omega)), (by first | rfl | exact iv1 (by (try simp only [decide_eq_true_eq, decide_eq_false_iff_not, toNat_cast] at *); omega)), (by first | rfl | exact iv1 (by (try simp only [decide_eq_true_eq, decide_eq_false_iff_not, toNat_cast] at *); omega)), trivial⟩ ⟨rfl, rfl, rfl, rfl, trivial⟩) ?_
        refine Tri.seq (Tri.reg hT ?_)
        refine ⟨_, [], trivial, rfl, rfl, fun h => ⟨rfl, rfl, rfl⟩, ?_⟩
        refine ⟨_, [], trivial, rfl, rfl, fun h => ⟨rfl, rfl, rfl⟩, ?_⟩
        refine ⟨_, [], trivial, rfl, rfl, fun h => ⟨h, h, by have h9 : (k : Int) < (L.length : Int) := of_decide_eq_true h; omega, rfl, rfl, rfl⟩, ?_⟩
        refine ⟨_, [], trivial, rfl, rfl, fun h => ⟨h, rfl, rfl, rfl⟩, ?_⟩
        refine ⟨_, [], trivial, rfl, rfl, fun h => ⟨h, rfl, rfl, rfl⟩, ?_⟩
        refine ⟨_, [], trivial, rfl, rfl, fun h => ⟨rfl, rfl, rfl⟩, ?_⟩
        refine ⟨_, [], trivial, rfl, rfl, fun h => ⟨rfl, rfl, rfl⟩, ?_⟩
        refine ⟨_, [], trivial, rfl, rfl, fun h => ⟨h, rfl, rfl, rfl⟩, ?_⟩
        refine ⟨_, [], trivial, rfl, rfl, fun h => ⟨h, h, rfl, rfl, rfl⟩, ?_⟩
        refine ⟨_, [], trivial, rfl, rfl, fun h => ⟨h, h, rfl, rfl, rfl⟩, ?_⟩
        refine ⟨⟨fun hc => hc, fun _ => trivial⟩, ?_⟩
        refine (Tri.cond ⟨fun h2 => ?_, fun h2 => ?_⟩)
        · refine (Tri.skip ?_)
          refine (Tri.block ?_)
          have hc : k < L.length ∧ pa (L.getD k (Ty.dflt pT)) = pa (L.getD i (Ty.dflt pT)) + s.length := (by rw [ifb] at h2; have q := Bool.and_eq_true_iff.1 h2; have q1 := of_decide_eq_true q.1; have q2 := of_decide_eq_true q.2; rw [wrapId (by omega), toNat_cast] at q2; exact ⟨by omega, q2⟩); have hnext := rnMore hi hlt hv hk hc.1 hc.2; have hnb := hnext.2.2.2.1; rw [List.length_append] at hnb; have w1 : IntKind.i64.wrap ((k : Int) + 1) = ((k + 1 : Nat) : Int) := (by rw [wrapId (by omega)]; omega)
          refine Tri.le (⟨45, 51, 240, [(0, .ex (yieldV 50)), (1, .loc 11 0), (3, .int .i64 (k : Int)), (4, .int .i64 (pa (L.getD i (Ty.dflt pT)))), (5, .str s)], [(50, .ext (loopX m [(q, .loc 7 0)] ps assign body)), (7, .box [.own 100 out.length]), (100, .arr pT (out.map fin)), (11, .box [.list pT L])], []⟩) (Le.weak rfl rfl rfl rfl ⟨(by first | rfl | exact iv1 (by (try simp only [decide_eq_true_eq, decide_eq_false_iff_not, toNat_cast] at *); omega)), (by first | rfl | exact iv1 (by (try simp only [decide_eq_true_eq, decide_eq_false_iff_not, toNat_cast] at *); omega)), (by first | rfl | exact iv1 (by (try simp only [decide_eq_true_eq, decide_eq_false_iff_not, toNat_cast] at *); omega)), (by first | rfl | exact iv1 (by (try simp only [decide_eq_true_eq, decide_eq_false_iff_not, toNat_cast] at *); omega)), (by first | rfl | exact iv1 (by (try simp only [decide_eq_true_eq, decide_eq_false_iff_not, toNat_cast] at *); omega)), trivial⟩ ⟨rfl, rfl, rfl, rfl, trivial⟩) ?_
          refine Tri.seq (Tri.reg hT ?_)
          refine ⟨by omega, ?_⟩
          refine ⟨by rw [toNat_cast]; show _ + (pd (L.getD k (Ty.dflt pT))).length ≤ _; omega, ?_⟩
          refine (Tri.reg hT ?_)
          exact ⟨(k + 1, s ++ pd (L.getD k (Ty.dflt pT))), hnext, (by show L.length - (k + 1) < L.length - k; omega), Le.weak rfl rfl rfl rfl ⟨(by first | rfl | exact iv1 (by (try simp only [decide_eq_true_eq, decide_eq_false_iff_not, toNat_cast] at *); omega)), (by first | rfl | exact iv1 (by (try simp only [decide_eq_true_eq, decide_eq_false_iff_not, toNat_cast] at *); omega)), congrArg (AV.int .i64) w1, (by first | rfl | exact iv1 (by (try simp only [decide_eq_true_eq, decide_eq_false_iff_not, toNat_cast] at *); omega)), (by first | rfl | exact iv1 (by (try simp only [decide_eq_true_eq, decide_eq_false_iff_not, toNat_cast] at *); omega)), trivial⟩ ⟨rfl, rfl, rfl, rfl, trivial⟩⟩
        · refine Tri.exit ?_
          have hs := rnStop hlt hk (fun hc => by rw [ifb] at h2; have q : decide ((k : Int) < (L.length : Int)) = true := decide_eq_true (by omega); rw [q, Bool.true_and] at h2; have q2 := of_decide_eq_false h2; rw [wrapId (by omega), toNat_cast] at q2; exact q2 hc.2); have hrl := rnLen hs.2; have hb := hB (out.map fin) (pa (L.getD i (Ty.dflt pT))) s (by rw [List.length_map]; omega) h0a hend; rw [List.length_map] at hb
          refine Tri.seq (Tri.regY hT 3 rfl rfl (by kernel_rfl) ?_)
          refine yield_step (k := 50) (m := m) (E := [(q, .loc 7 0)]) (ps := ps) (assign := assign) (body := body) 300 rfl rfl hb trivial rfl ⟨rfl, rfl, trivial⟩ rfl rfl ?_
          refine (Tri.cond ⟨fun h3 => ?_, fun h3 => ?_⟩)
          · cases h3
          · refine (Tri.skip ?_)
            exact ⟨(k, out ++ [(pa (L.getD i (Ty.dflt pT)), s, 0, 0, ())]), hs.2, (by show L.length - k < L.length - i; have := hs.1; omega), Le.weak rfl rfl rfl rfl ⟨(by first | rfl | exact iv1 (by (try simp only [decide_eq_true_eq, decide_eq_false_iff_not, toNat_cast] at *); omega)), (by first | rfl | exact iv1 (by (try simp only [decide_eq_true_eq, decide_eq_false_iff_not, toNat_cast] at *); omega)), (by first | rfl | exact iv1 (by (try simp only [decide_eq_true_eq, decide_eq_false_iff_not, toNat_cast] at *); omega)), trivial⟩ ⟨rfl, congrArg (fun n => some (Chunk.box [.own 100 n])) (by show _ = (out ++ [_]).length; rw [List.length_append]; rfl), congrArg (fun l => some (Chunk.arr pT l)) (by show _ = (out ++ [_]).map fin; rw [List.map_append]; rfl), rfl, trivial⟩⟩
    · refine Tri.exit ?_
      have hN : i = L.length := (by have := of_decide_eq_false h1; change ¬ (i : Int) < _ at this; omega); have eF : foldF L = out.map fin := (by unfold foldF; rw [← hN, hi.2.1]); rw [eF, List.length_map]; exact ⟨rfl, rfl, rfl, rfl, rfl, trivial⟩
end Go.Proofs.Ytopnempdeopjfaa.Fx

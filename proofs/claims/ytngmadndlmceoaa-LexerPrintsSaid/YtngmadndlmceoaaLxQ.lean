import Derived.Test.YtngmadndlmceoaaLxM
import Derived.Test.YtngmadndlmceoaaLxI
set_option linter.all false
/- Contracts of chapter 04: the cursor. -/
namespace Go.Proofs.Ytngmadndlmceoaa.Fx
open Go Go.Fw Go.Ov Go.Lx
abbrev curC (l : List Tk) (i : Nat) : List AV := [.list tT l, .int .i64 (i : Int)]
set_option maxRecDepth 8000 in
theorem f20_spec (l : List Tk) (i : Nat) (hi : i < l.length) (hl : l.length ≤ 1099511627776) (id : Nat) : CSpec P [] 20 [.loc id 0] (oneU id (curC l i) none) (tv (l.getD i (Ty.dflt tT))) := by
  refine cspec_intro hT Try.func20 (by decide) rfl rfl (by kernel_rfl) rfl (fun _ => rfl) (fun _ => rfl) (fun _ => rfl) (fun _ => rfl) ?_ id
  refine Tri.seq (Tri.reg hT ?_)
  refine Tri.seq ?_
  refine Tri.seq (Tri.reg hT ?_)
  refine ⟨_, [], trivial, rfl, rfl, fun h => ⟨rfl, rfl, rfl⟩, ?_⟩
  refine ⟨_, [], trivial, rfl, rfl, fun h => ⟨h, rfl, rfl, rfl⟩, ?_⟩
  refine ⟨_, [], trivial, rfl, rfl, fun h => ⟨h, rfl, rfl, rfl⟩, ?_⟩
  refine ⟨_, [], trivial, rfl, rfl, fun h => ⟨h, rfl, rfl, rfl⟩, ?_⟩
  refine ⟨_, [], trivial, rfl, rfl, fun h => ⟨h, rfl, rfl, rfl⟩, ?_⟩
  refine ⟨_, [], trivial, rfl, rfl, fun h => ⟨h, rfl, rfl, rfl⟩, ?_⟩
  refine ⟨⟨fun _ => trivial, fun hc => (gn hc)⟩, ?_⟩
  refine (Tri.cond ⟨fun h1 => ?_, fun h1 => ?_⟩)
  · exact absurd (of_decide_eq_true h1) (by omega)
  · refine (Tri.skip ?_)
    refine Tri.seq (Tri.drw hT hm 10 (by kernel_rfl) ?_)
    refine ⟨by omega, ?_⟩
    refine ⟨by kernel_rfl, ?_⟩
    refine Tri.ret ?_
    exact ⟨rfl, rfl, trivial⟩
abbrev nextI (l : List Tk) (i : Nat) : Nat := if i < l.length - 1 then i + 1 else i
set_option maxRecDepth 8000 in
theorem f21_spec (l : List Tk) (i : Nat) (hi : i < l.length) (hl : l.length ≤ 1099511627776) (id : Nat) : CSpec P [] 21 [.loc id 0] (oneU id (curC l i) (some (curC l (nextI l i)))) (tv (l.getD i (Ty.dflt tT))) := by
  have w1 : IntKind.i64.wrap ((i : Int) + 1) = ((i + 1 : Nat) : Int) := by rw [wrapId (by omega)]; omega
  have w2 : IntKind.i64.wrap ((l.length : Int) - 1) = ((l.length - 1 : Nat) : Int) := by rw [wrapId (by omega)]; omega
  refine cspec_intro hT Try.func21 (by decide) rfl rfl (by kernel_rfl) rfl (fun _ => rfl) (fun _ => rfl) (fun _ => rfl) (fun _ => rfl) ?_ id
  refine Tri.seq (Tri.reg hT ?_)
  refine Tri.seq (Tri.reg hT ?_)
  refine .inl (.inr (.inl ⟨_, _, (by exact ⟨rfl, trivial⟩), f20_spec l i hi hl _, (by rfl), ?_⟩))
  refine Tri.seq ?_
  refine Tri.seq (Tri.drw hT hm 15 (by kernel_rfl) ?_)
  refine ⟨_, [], trivial, rfl, rfl, fun h => ⟨rfl, rfl, rfl⟩, ?_⟩
  refine ⟨_, [], trivial, rfl, rfl, fun h => ⟨h, rfl, rfl, rfl⟩, ?_⟩
  refine ⟨_, [], trivial, rfl, rfl, fun h => ⟨h, rfl, rfl, rfl⟩, ?_⟩
  refine ⟨_, [], trivial, rfl, rfl, fun h => ⟨h, rfl, rfl, rfl⟩, ?_⟩
  refine ⟨_, [], trivial, rfl, rfl, fun h => ⟨rfl, rfl, rfl⟩, ?_⟩
  refine ⟨_, [], trivial, rfl, rfl, fun h => ⟨h, rfl, rfl, rfl⟩, ?_⟩
  refine ⟨_, [], trivial, rfl, rfl, fun h => ⟨h, rfl, rfl, rfl⟩, ?_⟩
  refine ⟨_, [], trivial, rfl, rfl, fun h => ⟨h, rfl, rfl, rfl⟩, ?_⟩
  refine ⟨_, [], trivial, rfl, rfl, fun h => ⟨h, rfl, rfl, rfl⟩, ?_⟩
  refine ⟨_, [], trivial, rfl, rfl, fun h => ⟨h, rfl, rfl, rfl⟩, ?_⟩
  refine ⟨_, [], trivial, rfl, rfl, fun h => ⟨h, h, rfl, rfl, rfl⟩, ?_⟩
  refine ⟨⟨fun hc => hc, fun _ => trivial⟩, ?_⟩
  refine ⟨by kernel_rfl, ?_⟩
  refine (Tri.cond ⟨fun h1 => ?_, fun h1 => ?_⟩)
  · refine (Tri.reg hT ?_)
    refine Tri.seq (Tri.reg hT ?_)
    refine Tri.ret ?_
    have q : i < l.length - 1 := (by rw [w2] at h1; have := of_decide_eq_true h1; omega); exact ⟨rfl, congrArg (fun z : Int => some (Chunk.box [AV.list tT l, AV.int .i64 z])) (w1.trans (congrArg (fun n : Nat => (n : Int)) (if_pos q).symm)), trivial⟩
  · refine (Tri.skip ?_)
    refine Tri.seq (Tri.reg hT ?_)
    refine Tri.ret ?_
    have q : ¬ i < l.length - 1 := (by rw [w2] at h1; have := of_decide_eq_false h1; omega); exact ⟨rfl, by rw [show nextI l i = i from if_neg q]; rfl, trivial⟩
abbrev isB (t : Tk) (k : Int) (s : List UInt8) : Bool := decide (t.1 = k) && decide (t.2.1 = s)
abbrev moveI (b : Bool) (l : List Tk) (i : Nat) : Nat := if b = true then nextI l i else i
set_option maxRecDepth 8000 in
theorem f42_spec (l : List Tk) (i : Nat) (k : Int) (s : List UInt8) (hi : i < l.length) (hl : l.length ≤ 1099511627776) (id : Nat) : CSpec P [] 42 [.loc id 0, .int .i64 k, .str s] (oneU id (curC l i) (some (curC l (moveI (isB (l.getD i (Ty.dflt tT)) k s) l i)))) (.bool (isB (l.getD i (Ty.dflt tT)) k s)) := by
  refine cspec_intro hT Try.func42 (by decide) rfl rfl (by kernel_rfl) rfl (fun _ => rfl) (fun _ => rfl) (fun _ => rfl) (fun _ => rfl) ?_ id
  refine Tri.seq (Tri.reg hT ?_)
  refine Tri.seq (Tri.reg hT ?_)
  refine .inl (.inr (.inl ⟨_, _, (by exact ⟨rfl, trivial⟩), f20_spec l i hi hl _, (by rfl), ?_⟩))
  refine Tri.seq ?_
  refine Tri.seq (Tri.reg hT ?_)
  refine ⟨_, [], trivial, rfl, rfl, fun h => ⟨rfl, rfl, rfl⟩, ?_⟩
  refine ⟨_, [], trivial, rfl, rfl, fun h => ⟨h, rfl, rfl, rfl⟩, ?_⟩
  refine ⟨_, [], trivial, rfl, rfl, fun h => ⟨rfl, rfl, rfl⟩, ?_⟩
  refine ⟨_, [], trivial, rfl, rfl, fun h => ⟨h, h, rfl, rfl, rfl⟩, ?_⟩
  refine ⟨⟨fun _ => trivial, fun hc => (gn hc)⟩, ?_⟩
  refine ⟨_, [], trivial, rfl, rfl, fun h => ⟨rfl, rfl, rfl⟩, ?_⟩
  refine ⟨_, [], trivial, rfl, rfl, fun h => ⟨h, rfl, rfl, rfl⟩, ?_⟩
  refine ⟨_, [], trivial, rfl, rfl, fun h => ⟨rfl, rfl, rfl⟩, ?_⟩
  refine ⟨_, [], trivial, rfl, rfl, fun h => ⟨h, h, rfl, rfl, rfl⟩, ?_⟩
  refine ⟨⟨fun _ => trivial, fun hc => (gn hc)⟩, ?_⟩
  refine (Tri.cond ⟨fun h1 => ?_, fun h1 => ?_⟩)
  · have eB : isB (l.getD i (Ty.dflt tT)) k s = false := (by change (if (if false = true then true else decide ((l.getD i (Ty.dflt tT)).1 ≠ k)) = true then true else decide ((l.getD i (Ty.dflt tT)).2.1 ≠ s)) = true at h1; unfold isB; by_cases q1 : (l.getD i (Ty.dflt tT)).1 = k; rw [Bool.and_eq_false_iff]; right; rw [decide_eq_false (show ¬ (l.getD i (Ty.dflt tT)).1 ≠ k from fun n => n q1)] at h1; exact decide_eq_false (of_decide_eq_true h1); rw [decide_eq_false q1]; rfl)
    refine Tri.seq (Tri.reg hT ?_)
    refine Tri.ret ?_
    exact ⟨congrArg AV.bool eB.symm, congrArg (fun b => some (Chunk.box (curC l (moveI b l i)))) (show false = _ from eB.symm), trivial⟩
  · refine (Tri.skip ?_)
    have eB : isB (l.getD i (Ty.dflt tT)) k s = true := (by change (if (if false = true then true else decide ((l.getD i (Ty.dflt tT)).1 ≠ k)) = true then true else decide ((l.getD i (Ty.dflt tT)).2.1 ≠ s)) = false at h1; unfold isB; by_cases q1 : (l.getD i (Ty.dflt tT)).1 = k; rw [decide_eq_true q1]; rw [decide_eq_false (show ¬ (l.getD i (Ty.dflt tT)).1 ≠ k from fun n => n q1)] at h1; exact decide_eq_true (Classical.not_not.1 (of_decide_eq_false h1)); rw [decide_eq_true (show (l.getD i (Ty.dflt tT)).1 ≠ k from q1)] at h1; cases h1)
    refine Tri.seq (Tri.reg hT ?_)
    refine .inl (.inr (.inl ⟨_, _, (by exact ⟨rfl, trivial⟩), f21_spec l i hi hl _, (by rfl), ?_⟩))
    refine Tri.seq (Tri.reg hT ?_)
    refine Tri.ret ?_
    exact ⟨congrArg AV.bool eB.symm, congrArg (fun b => some (Chunk.box (curC l (moveI b l i)))) (show true = _ from eB.symm), trivial⟩
theorem f22_spec (l : List Tk) (i : Nat) (s : List UInt8) (hi : i < l.length) (hl : l.length ≤ 1099511627776) (id : Nat) : CSpec P [] 22 [.loc id 0, .str s] (oneU id (curC l i) (some (curC l (moveI (isB (l.getD i (Ty.dflt tT)) 4 s) l i)))) (.bool (isB (l.getD i (Ty.dflt tT)) 4 s)) := by
  refine cspec_intro hT Try.func22 (by decide) rfl rfl (by kernel_rfl) rfl (fun _ => rfl) (fun _ => rfl) (fun _ => rfl) (fun _ => rfl) ?_ id
  refine Tri.seq (Tri.reg hT ?_)
  refine Tri.seq (Tri.reg hT ?_)
  refine .inl (.inr (.inl ⟨_, _, (by exact ⟨rfl, trivial⟩), f42_spec l i 4 s hi hl _, (by rfl), ?_⟩))
  refine Tri.ret ?_
  exact ⟨rfl, rfl, trivial⟩
theorem f23_spec (l : List Tk) (i : Nat) (s : List UInt8) (hi : i < l.length) (hl : l.length ≤ 1099511627776) (id : Nat) : CSpec P [] 23 [.loc id 0, .str s] (oneU id (curC l i) (some (curC l (moveI (isB (l.getD i (Ty.dflt tT)) 1 s) l i)))) (.bool (isB (l.getD i (Ty.dflt tT)) 1 s)) := by
  refine cspec_intro hT Try.func23 (by decide) rfl rfl (by kernel_rfl) rfl (fun _ => rfl) (fun _ => rfl) (fun _ => rfl) (fun _ => rfl) ?_ id
  refine Tri.seq (Tri.reg hT ?_)
  refine Tri.seq (Tri.reg hT ?_)
  refine .inl (.inr (.inl ⟨_, _, (by exact ⟨rfl, trivial⟩), f42_spec l i 1 s hi hl _, (by rfl), ?_⟩))
  refine Tri.ret ?_
  exact ⟨rfl, rfl, trivial⟩
/-- The number that a token is. -/
def intT (t : Tk) : Int × Bool := if t.1 = 1 ∧ (numS t.2.1).2 = true then ((numS t.2.1).1, true) else (0, false)
set_option maxRecDepth 8000 in
theorem f24_spec (l : List Tk) (i : Nat) (hi : i < l.length) (hl : l.length ≤ 1099511627776) (ht : (l.getD i (Ty.dflt tT)).2.1.length ≤ 300) (id : Nat) : CSpec P [] 24 [.loc id 0] (oneU id (curC l i) (some (curC l (moveI (intT (l.getD i (Ty.dflt tT))).2 l i)))) (.tup [.int .i64 (intT (l.getD i (Ty.dflt tT))).1, .bool (intT (l.getD i (Ty.dflt tT))).2]) := by
  refine cspec_intro hT Try.func24 (by decide) rfl rfl (by kernel_rfl) rfl (fun _ => rfl) (fun _ => rfl) (fun _ => rfl) (fun _ => rfl) ?_ id
  refine Tri.seq (Tri.reg hT ?_)
  refine Tri.seq (Tri.reg hT ?_)
  refine .inl (.inr (.inl ⟨_, _, (by exact ⟨rfl, trivial⟩), f20_spec l i hi hl _, (by rfl), ?_⟩))
  refine Tri.seq (Tri.reg hT ?_)
  refine .inl (.inl ⟨_, fun _ => rfl, f16_spec _ (by omega), ?_⟩)
  refine Tri.seq ?_
  refine Tri.seq (Tri.reg hT ?_)
  refine ⟨_, [], trivial, rfl, rfl, fun h => ⟨rfl, rfl, rfl⟩, ?_⟩
  refine ⟨_, [], trivial, rfl, rfl, fun h => ⟨h, rfl, rfl, rfl⟩, ?_⟩
  refine ⟨⟨fun _ => trivial, fun hc => (gn hc)⟩, ?_⟩
  refine (Tri.cond ⟨fun h1 => ?_, fun h1 => ?_⟩)
  · have eB : intT (l.getD i (Ty.dflt tT)) = (0, false) := if_neg (fun q => by rw [show decide ((l.getD i (Ty.dflt tT)).1 ≠ 1) = false from decide_eq_false (fun n => n q.1), q.2] at h1; cases h1)
    refine Tri.seq (Tri.reg hT ?_)
    refine Tri.ret ?_
    exact ⟨congrArg (fun x : Int × Bool => AV.tup [.int .i64 x.1, .bool x.2]) eB.symm, congrArg (fun x : Int × Bool => some (Chunk.box (curC l (moveI x.2 l i)))) (show (0, false) = _ from eB.symm), trivial⟩
  · refine (Tri.skip ?_)
    have q1 : (l.getD i (Ty.dflt tT)).1 = 1 := Classical.byContradiction (fun n => by rw [show decide ((l.getD i (Ty.dflt tT)).1 ≠ 1) = true from decide_eq_true n] at h1; cases h1); have q2 : (numS (l.getD i (Ty.dflt tT)).2.1).2 = true := (by rw [show decide ((l.getD i (Ty.dflt tT)).1 ≠ 1) = false from decide_eq_false (fun n => n q1)] at h1; simpa using h1); have eB : intT (l.getD i (Ty.dflt tT)) = ((numS (l.getD i (Ty.dflt tT)).2.1).1, true) := if_pos ⟨q1, q2⟩
    refine Tri.seq (Tri.reg hT ?_)
    refine .inl (.inr (.inl ⟨_, _, (by exact ⟨rfl, trivial⟩), f21_spec l i hi hl _, (by rfl), ?_⟩))
    refine Tri.seq (Tri.reg hT ?_)
    refine Tri.ret ?_
    exact ⟨congrArg (fun x : Int × Bool => AV.tup [.int .i64 x.1, .bool x.2]) eB.symm, congrArg (fun x : Int × Bool => some (Chunk.box (curC l (moveI x.2 l i)))) (show ((numS (l.getD i (Ty.dflt tT)).2.1).1, true) = _ from eB.symm), trivial⟩
/-! ### a new cursor -/
theorem f35_spec (xs : List Tk) (hl : xs.length ≤ 1099511627776) : PSpec P [] 35 [.list tT xs] (.list tT xs) := by
  refine pspec_intro hT Try.func35 (by decide) rfl rfl (by kernel_rfl) rfl ?_
  refine Tri.seq (Tri.reg hT ?_)
  refine Tri.seq ?_
  refine Tri.seq (Tri.reg hT ?_)
  refine (Tri.cond ⟨fun h1 => ?_, fun h1 => ?_⟩)
  · refine Tri.seq (Tri.reg hT ?_)
    refine Tri.le ⟨8, 0, 0, [(2, .list tT xs)], [], []⟩ (Le.weakV rfl rfl rfl rfl ⟨h1, trivial⟩ trivial) ?_
    refine Tri.ret ?_
    exact ⟨rfl, trivial⟩
  · refine (Tri.skip ?_)
    refine Tri.seq (Tri.reg hT ?_)
    refine ⟨by show _ ≤ _ ∧ (0 + xs.length) * 32 ≤ _ ∧ 0 + xs.length ≤ _; omega, ?_⟩
    refine Tri.le ⟨8, 0, 0, [(2, .list tT xs)], [], []⟩ (Le.trans (Le.freeze 2 _ _ rfl rfl (by show 0 + xs.length ≤ ([] ++ xs).length; simp)) (Le.weak rfl rfl rfl rfl ⟨congrArg (AV.list tT) (by show List.take (0 + xs.length) ([] ++ xs) = xs; simp), trivial⟩ trivial)) ?_
    refine Tri.ret ?_
    exact ⟨rfl, trivial⟩
theorem scan_len : ∀ (s : List UInt8) (n : Nat) (acc : List Tk) (a : Nat), a ≤ s.length → acc.length ≤ a → (scanN s n acc a).1.length ≤ s.length + 1
  | s, 0, acc, a, h1, h2 => by unfold scanN; show acc.length ≤ _; omega
  | s, n + 1, acc, a, h1, h2 => by
    unfold scanN
    split
    · rename_i h3
      split
      · rename_i h4
        have h6 := tokM_ok h3 h4
        have h7 := skipS_le s (tokM s a).1.2
        exact scan_len s n _ _ (h7.2 h6.2) (by rw [List.length_append]; show acc.length + 1 ≤ _; omega)
      · simp
    · rw [List.length_append]; show acc.length + 1 ≤ _; omega
theorem scanS_len (s : List UInt8) : (scanS s).1.length ≤ 16001 := by
  unfold scanS
  split
  · simp
  · have h := skipS_le s 0
    have := scan_len s (s.length + 1 - skipS s 0) [] (skipS s 0) (h.2 (by omega)) (by simp)
    unfold scanA
    omega
abbrev newAV (k : Nat) (r : List Tk × Int × Nat) : AV := .tup [if r.2.1 = 0 then .loc k 0 else .nilp, .int .i64 r.2.1, .int .i64 (r.2.2 : Int)]
abbrev newH (k : Nat) (r : List Tk × Int × Nat) : List (Nat × Chunk) := if r.2.1 = 0 then [(k, .box (curC r.1 0))] else []
theorem scanN_ok (s : List UInt8) : ∀ (n : Nat) (acc : List Tk) (a : Nat), (scanN s n acc a).2.1 = 0 → (scanN s n acc a).2.2 = 0
  | 0, acc, a, _ => rfl
  | n + 1, acc, a, h => by
    unfold scanN at h ⊢
    split at h
    · rename_i h3
      rw [if_pos h3]
      split at h
      · rename_i h4; rw [if_pos h4]; exact scanN_ok s n _ _ h
      · rename_i h4; exact absurd h h4
    · rename_i h3; rw [if_neg h3]
theorem scanS_ok {s : List UInt8} (h : (scanS s).2.1 = 0) : (scanS s).2.2 = 0 := by
  unfold scanS at h ⊢
  split at h
  · cases h
  · rename_i h1; rw [if_neg h1]; exact scanN_ok s _ _ _ h
set_option maxRecDepth 8000 in
theorem newCur_at (s : List UInt8) : HSpec P [] 14 [.str s] [] (newAV 17 (scanS s)) (newH 17 (scanS s)) := by
  have hsl := scanS_len s
  refine fspec_intro hT [] (newH 17 (scanS s)) 0 0 Try.func14 (by decide) rfl rfl (by kernel_rfl) rfl rfl ?_
  refine Tri.seq (Tri.reg hT ?_)
  refine Tri.seq (Tri.reg hT ?_)
  refine .inl (.inl ⟨_, fun _ => rfl, f12_spec s, ?_⟩)
  refine Tri.seq ?_
  refine Tri.seq (Tri.reg hT ?_)
  refine (Tri.cond ⟨fun h1 => ?_, fun h1 => ?_⟩)
  · refine Tri.seq (Tri.reg hT ?_)
    refine Tri.ret ?_
    have k := of_decide_eq_true h1; rw [show newH 17 (scanS s) = [] from if_neg k]; exact ⟨congrArg (fun v => AV.tup [v, .int .i64 (scanS s).2.1, .int .i64 ((scanS s).2.2 : Int)]) (if_neg k).symm, trivial⟩
  · refine (Tri.skip ?_)
    refine Tri.seq (Tri.reg hT ?_)
    refine .inl (.inl ⟨_, fun _ => rfl, f35_spec _ (by omega), ?_⟩)
    refine Tri.ret ?_
    have k := Classical.not_not.1 (of_decide_eq_false h1); have k2 := scanS_ok k; rw [show newH 17 (scanS s) = [(17, .box (curC (scanS s).1 0))] from if_pos k]; exact ⟨by unfold newAV; rw [if_pos k, k, k2]; rfl, rfl, trivial⟩
theorem newCur (s : List UInt8) (k : Nat) : HSpec P [] 14 [.str s] [] (newAV k (scanS s)) (newH k (scanS s)) := by
  have h := FSpec.ren (newCur_at s) (fun j => if j = 17 then k else if j = k then 17 else j) (fun i j h => by (repeat' split at h) <;> omega)
  have e1 : (newAV 17 (scanS s)).ren (fun j => if j = 17 then k else if j = k then 17 else j) = newAV k (scanS s) := by
    unfold newAV
    by_cases q : (scanS s).2.1 = 0
    · rw [if_pos q, if_pos q]; simp [AV.ren, AV.renL]
    · rw [if_neg q, if_neg q]; simp [AV.ren, AV.renL]
  have e2 : renH (fun j => if j = 17 then k else if j = k then 17 else j) (newH 17 (scanS s)) = newH k (scanS s) := by
    unfold newH
    by_cases q : (scanS s).2.1 = 0
    · rw [if_pos q, if_pos q]; simp [renH, Chunk.ren, AV.renL, AV.ren]
    · rw [if_neg q, if_neg q]; rfl
  rw [e1, e2] at h
  exact h
end Go.Proofs.Ytngmadndlmceoaa.Fx

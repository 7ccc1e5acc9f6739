import Derived.Test.YtchiagnggnblaaaDoorAcA
set_option linter.all false
/- Contracts of chapter 19, continued: windows, options, time stamps. -/
namespace Go.Proofs.YtchiagnggnblaaaDoor.Ac
open Go Go.Fw Go.Proofs.YtchiagnggnblaaaDoor.Fx

def within (s n nx w : Int) : Bool :=
  if min (max n 0) 1048576 = 0 then diff s nx = 0 || (diff s nx > 0 && diff s nx < min (max w 0) 1073741824)
  else min (max w 0) 1073741824 > 0 && diff s nx < min (max w 0) 1073741824 && IntKind.i64.wrap (diff s nx + min (max n 0) 1048576) > 0
def lowR (s nx n w : Int) : Bool := if IntKind.u32.wrap (s - nx) < IntKind.u32.wrap w then true else decide (IntKind.u32.wrap (nx - s) < IntKind.u32.wrap n)
def withinR (s n nx w : Int) : Bool :=
  if n < 1 ∧ s = nx then true
  else if w < 1 then false
  else lowR s nx (if (if n < 1 then 1 else n) > 1048576 then 1048576 else (if n < 1 then 1 else n)) (if w > 1073741824 then 1073741824 else w)

theorem f38_spec (s n : Int) (op : Bool) (nx sn w : Int) (st : Bool) (stamp : Int) : PSpec P G 38 [.int .u32 s, .int .i64 n, viewV op nx sn w st stamp] (.bool (within s n nx w)) := by
  refine pspec_intro hT Tryd.func38 (by decide) rfl rfl (by kernel_rfl) rfl ?_
  refine Tri.seq (Tri.reg hT ?_)
  refine Tri.seq (Tri.reg hT ?_)
  refine Tri.seq (Tri.reg hT ?_)
  refine Tri.seq (Tri.reg hT ?_)
  refine .inl (.inl ⟨_, fun _ => rfl, f48_spec .., ?_⟩)
  refine Tri.seq ?_
  refine Tri.seq (Tri.reg hT ?_)
  refine (Tri.cond ⟨fun h1 => ?_, fun h1 => ?_⟩)
  · refine Tri.seq (Tri.reg hT ?_)
    refine ⟨_, [], trivial, rfl, rfl, fun h => ⟨rfl, rfl, rfl⟩, ?_⟩
    refine ⟨_, [], trivial, rfl, rfl, fun h => ⟨h, rfl, rfl, rfl⟩, ?_⟩
    refine ⟨_, [], trivial, rfl, rfl, fun h => ⟨h, rfl, rfl, rfl⟩, ?_⟩
    refine ⟨_, [], trivial, rfl, rfl, fun h => ⟨rfl, rfl, rfl⟩, ?_⟩
    refine ⟨_, [], trivial, rfl, rfl, fun h => ⟨rfl, rfl, rfl⟩, ?_⟩
    refine ⟨_, [], trivial, rfl, rfl, fun h => ⟨h, h, rfl, rfl, rfl⟩, ?_⟩
    refine ⟨_, [], trivial, rfl, rfl, fun h => ⟨h, ⟨fun hc => ga h hc, fun _ => trivial⟩, rfl, rfl, rfl⟩, ?_⟩
    refine ⟨⟨fun _ => trivial, fun hc => (gn hc)⟩, ?_⟩
    refine Tri.ret ?_
    exact ⟨congrArg AV.bool (by simp_all [within]), trivial⟩
  · refine (Tri.skip ?_)
    refine Tri.seq (Tri.reg hT ?_)
    refine ⟨_, [], trivial, rfl, rfl, fun h => ⟨rfl, rfl, rfl⟩, ?_⟩
    refine ⟨_, [], trivial, rfl, rfl, fun h => ⟨rfl, rfl, rfl⟩, ?_⟩
    refine ⟨_, [], trivial, rfl, rfl, fun h => ⟨h, h, rfl, rfl, rfl⟩, ?_⟩
    refine ⟨⟨fun hc => hc, fun _ => trivial⟩, ?_⟩
    refine ⟨_, [], trivial, rfl, rfl, fun h => ⟨rfl, rfl, rfl⟩, ?_⟩
    refine ⟨_, [], trivial, rfl, rfl, fun h => ⟨rfl, rfl, rfl⟩, ?_⟩
    refine ⟨_, [], trivial, rfl, rfl, fun h => ⟨h, h, rfl, rfl, rfl⟩, ?_⟩
    refine ⟨_, [], trivial, rfl, rfl, fun h => ⟨h, rfl, rfl, rfl⟩, ?_⟩
    refine ⟨⟨fun hc => hc, fun _ => trivial⟩, ?_⟩
    refine Tri.ret ?_
    exact ⟨congrArg AV.bool (by simp_all [within]), trivial⟩

def optionR (o : List optT.D) (k n : Int) : List UInt8 × Bool :=
  match o.find? (fun x => decide (x.1 = k)) with
  | some x => (x.2.1, decide ((x.2.1.length : Int) = n))
  | none => ([], false)
theorem f45_spec (a b s k f w u : Int) (o : List optT.D) (p : List UInt8) (kind size : Int) (ho : o.length < 9223372036854775807) :
    PSpec P G 45 [tcpV a b s k f w u o p, .int .i64 kind, .int .i64 size] (.tup [.str (optionR o kind size).1, .bool (optionR o kind size).2]) := by
  refine pspec_intro hT Tryd.func45 (by decide) rfl rfl (by kernel_rfl) rfl ?_
  refine Tri.seq (Tri.reg hT ?_)
  refine Tri.seq ?_
  refine Tri.seq (Tri.reg hT ?_)
  refine (Tri.block ?_)
  refine (Tri.loop (ι := Nat) (fun i => ⟨29, 0, 0, [(1, .int .i64 kind), (2, .int .i64 size), (6, .str []), (7, .bool false), (11, .list optT o), (12, .int .i64 o.length), (13, .int .i64 (i : Int))], [], G⟩) (fun i => i ≤ o.length ∧ o.find? (fun x => decide (x.1 = kind)) = (o.drop i).find? (fun x => decide (x.1 = kind))) (fun i => o.length - i) (0) ?_ ?_ ?_)
  · exact ⟨by omega, rfl⟩
  · exact Le.weak rfl rfl rfl rfl ⟨rfl, rfl, rfl, rfl, rfl, rfl, rfl, trivial⟩ trivial
  · intro i hi
    refine Tri.seq (Tri.reg hT ?_)
    refine Tri.seq (Tri.cond ⟨fun h1 => ?_, fun h1 => ?_⟩)
    · refine (Tri.skip ?_)
      refine Tri.seq (Tri.block ?_)
      refine Tri.seq (Tri.reg hT ?_)
      refine ⟨by simp at h1 ⊢; omega, ?_⟩
      refine Tri.seq (Tri.reg hT ?_)
      refine (Tri.cond ⟨fun h2 => ?_, fun h2 => ?_⟩)
      · refine Tri.seq (Tri.drw hT hm 8 (by kernel_rfl) ?_)
        refine ⟨by kernel_rfl, ?_⟩
        refine Tri.ret ?_
        simp at h1; have hd := drop_getD (Ty.dflt optT) (show i < o.length by omega); rw [toNat_cast] at h2; have hf : o.find? (fun x => decide (x.1 = kind)) = some (o.getD i (Ty.dflt optT)) := (by rw [hi.2, hd, List.find?_cons_of_pos (p := fun x : optT.D => decide (x.1 = kind)) h2]); exact ⟨by simp only [optionR, hf]; rfl, trivial⟩
      · refine (Tri.skip ?_)
        refine (Tri.reg hT ?_)
        simp at h1; have hd := drop_getD (Ty.dflt optT) (show i < o.length by omega); rw [toNat_cast] at h2; exact ⟨i + 1, ⟨by omega, by rw [hi.2, hd, List.find?_cons_of_neg (p := fun x : optT.D => decide (x.1 = kind)) (by rw [Bool.not_eq_true]; exact h2)]⟩, by omega, Le.weak rfl rfl rfl rfl ⟨rfl, rfl, rfl, rfl, rfl, rfl, iv1 (by omega), trivial⟩ trivial⟩
    · refine Tri.exit ?_
      refine Tri.seq (Tri.reg hT ?_)
      refine Tri.ret ?_
      simp at h1; exact ⟨by simp only [optionR, hi.2, List.drop_of_length_le h1, List.find?_nil]; rfl, trivial⟩

def num (l : List Int) : Int := l.foldl (fun n b => bitop .i64 .or (IntKind.i64.wrap (n * 256)) (IntKind.i64.wrap b)) 0
theorem f54_spec (l : List Int) (hl : l.length < 9223372036854775807) : PSpec P G 54 [.list (.int .u8) l] (.int .i64 (num l)) := by
  refine pspec_intro hT Tryd.func54 (by decide) rfl rfl (by kernel_rfl) rfl ?_
  refine Tri.seq (Tri.reg hT ?_)
  refine Tri.seq (Tri.reg hT ?_)
  refine Tri.seq ?_
  refine Tri.seq (Tri.reg hT ?_)
  refine (Tri.block ?_)
  refine (Tri.loop (ι := Nat) (fun i => ⟨19, 0, 0, [(3, .int .i64 (num (l.take i))), (6, .list (.int .u8) l), (7, .int .i64 l.length), (8, .int .i64 (i : Int))], [], G⟩) (fun i => i ≤ l.length) (fun i => l.length - i) (0) ?_ ?_ ?_)
  · exact Nat.zero_le _
  · exact Le.weak rfl rfl rfl rfl ⟨rfl, rfl, rfl, rfl, trivial⟩ trivial
  · intro i hi
    refine Tri.seq (Tri.reg hT ?_)
    refine Tri.seq (Tri.cond ⟨fun h1 => ?_, fun h1 => ?_⟩)
    · refine (Tri.skip ?_)
      refine Tri.seq (Tri.block ?_)
      refine Tri.seq (Tri.reg hT ?_)
      refine ⟨by simp at h1 ⊢; omega, ?_⟩
      refine (Tri.reg hT ?_)
      refine ⟨(by decide), ?_⟩
      refine (Tri.reg hT ?_)
      simp at h1; refine ⟨i + 1, by omega, by omega, Le.weak rfl rfl rfl rfl ⟨congrArg (AV.int .i64) ?_, rfl, rfl, iv1 (by omega), trivial⟩ trivial⟩; rw [take_getD (Ty.dflt (.int .u8)) h1]; simp only [num, List.foldl_append, List.foldl_cons, List.foldl_nil]; rfl
    · refine Tri.exit ?_
      refine Tri.seq (Tri.reg hT ?_)
      refine Tri.ret ?_
      simp at h1; exact ⟨congrArg (AV.int .i64) (by rw [List.take_of_length_le h1]), trivial⟩

theorem f53_spec (s : List UInt8) (at_ n : Int) (hv : valid n = true) (h0 : 0 ≤ at_) (hL : at_ + n ≤ s.length) (hs : s.length ≤ 140737488355328) :
    PSpec P G 53 [.str s, .int .i64 at_, .int .i64 n] (.tup [.list (.int .u8) (((intsOf s).take (at_ + n).toNat).drop at_.toNat), .int .i64 0]) := by
  have hn : 1 ≤ n ∧ n ≤ 7 := by simpa [valid] using hv
  have hw : IntKind.i64.wrap (at_ + n) = at_ + n := wrapId (by omega)
  have hw2 : IntKind.i64.wrap (s.length - at_) = s.length - at_ := wrapId (by omega)
  have hlen : (intsOf s).length = s.length := by simp [intsOf]
  have htk : (intsOf s).take s.length = intsOf s := by rw [← hlen, List.take_length]
  refine pspec_intro hT Tryd.func53 (by decide) rfl rfl (by kernel_rfl) rfl ?_
  refine Tri.seq (Tri.reg hT ?_)
  refine Tri.seq (Tri.block ?_)
  refine Tri.seq (Tri.reg hT ?_)
  refine .inl (.inl ⟨_, fun _ => rfl, f52_spec .., ?_⟩)
  refine ⟨_, [], trivial, rfl, rfl, fun h => ⟨rfl, rfl, rfl⟩, ?_⟩
  refine ⟨_, [], trivial, rfl, rfl, fun h => ⟨h, rfl, rfl, rfl⟩, ?_⟩
  refine ⟨⟨fun _ => trivial, fun hc => (gn hc)⟩, ?_⟩
  refine (Tri.cond ⟨fun h1 => ?_, fun h1 => ?_⟩)
  · rw [hv] at h1; simp at h1; omega
  · refine Tri.seq (Tri.reg hT ?_)
    refine ⟨_, [], trivial, rfl, rfl, fun h => ⟨rfl, rfl, rfl⟩, ?_⟩
    refine ⟨_, [], trivial, rfl, rfl, fun h => ⟨h, rfl, rfl, rfl⟩, ?_⟩
    refine ⟨_, [], trivial, rfl, rfl, fun h => ⟨rfl, rfl, rfl⟩, ?_⟩
    refine ⟨_, [], trivial, rfl, rfl, fun h => ⟨h, h, rfl, rfl, rfl⟩, ?_⟩
    refine ⟨_, [], trivial, rfl, rfl, fun h => ⟨rfl, rfl, rfl⟩, ?_⟩
    refine ⟨_, [], trivial, rfl, rfl, fun h => ⟨h, h, rfl, rfl, rfl⟩, ?_⟩
    refine ⟨⟨fun _ => trivial, fun hc => (gn hc)⟩, ?_⟩
    refine (Tri.cond ⟨fun h2 => ?_, fun h2 => ?_⟩)
    · rw [hw2] at h2; simp at h2; omega
    · refine (Tri.skip ?_)
      refine Tri.seq (Tri.reg hT ?_)
      refine ⟨⟨_, rfl⟩, by omega, ?_⟩
      refine Tri.le ⟨41, 0, 0, [(1, .int .i64 at_), (2, .int .i64 n), (8, .list (.int .u8) (intsOf s))], [], G⟩ (Le.trans (Le.freeze 8 _ _ rfl rfl (by rw [hlen]; exact Nat.le_refl _)) (Le.weak rfl rfl rfl rfl ⟨rfl, rfl, congrArg (AV.list (.int .u8)) htk, trivial⟩ trivial)) ?_
      refine Tri.seq (Tri.reg hT ?_)
      refine ⟨by rw [hw, hlen]; omega, ?_⟩
      refine Tri.ret ?_
      exact ⟨by rw [hw]; rfl, trivial⟩
end Go.Proofs.YtchiagnggnblaaaDoor.Ac

/- Contracts of chapter 19, continued: time stamps, segments. -/
import Derived.Test.YtfhadpmlbilebaaDoorWb
set_option linter.all false
namespace Go.Proofs.YtfhadpmlbilebaaDoor.Fx
open Go Go.Fw

theorem intsOf_take (s : List UInt8) (n : Nat) : (intsOf s).take n = intsOf (s.take n) := by simp [intsOf]
theorem f26_spec (s : List UInt8) (at_ n : Int) (hv : valid n = true) (h0 : 0 ≤ at_) (hL : at_ + n ≤ s.length) (hs : s.length ≤ 140737488355328) :
    PSpec P G 26 [.str s, .int .i64 at_, .int .i64 n] (.tup [.int .i64 (num (intsOf ((s.take (at_ + n).toNat).drop at_.toNat))), .int .i64 0]) := by
  have hn : 1 ≤ n ∧ n ≤ 7 := by simpa [valid] using hv
  have hw : IntKind.i64.wrap (at_ + n) = at_ + n := wrapId (by omega)
  have hw2 : IntKind.i64.wrap (s.length - at_) = s.length - at_ := wrapId (by omega)
  have hl : ((s.take (at_ + n).toNat).drop at_.toNat).length = n.toNat := by simp; omega
  have he : (intsOf ((s.take (at_ + n).toNat).drop at_.toNat)).take (0 + n).toNat = intsOf ((s.take (at_ + n).toNat).drop at_.toNat) := by
    rw [intsOf_take, List.take_of_length_le (by omega)]
  refine pspec_intro hT Tryd.func26 (by decide) rfl rfl (by kernel_rfl) rfl ?_
  refine Tri.seq (Tri.reg hT ?_)
  refine Tri.seq ?_
  refine Tri.seq (Tri.reg hT ?_)
  refine .inl (.inl ⟨_, fun _ => rfl, f27_spec .., ?_⟩)
  refine ⟨_, [], trivial, rfl, rfl, fun h => ⟨rfl, rfl, rfl⟩, ?_⟩
  refine ⟨_, [], trivial, rfl, rfl, fun h => ⟨h, rfl, rfl, rfl⟩, ?_⟩
  refine ⟨⟨fun hc => hc, fun _ => trivial⟩, ?_⟩
  refine ⟨_, [], trivial, rfl, rfl, fun h => ⟨rfl, rfl, rfl⟩, ?_⟩
  refine ⟨_, [], trivial, rfl, rfl, fun h => ⟨rfl, rfl, rfl⟩, ?_⟩
  refine ⟨_, [], trivial, rfl, rfl, fun h => ⟨h, rfl, rfl, rfl⟩, ?_⟩
  refine ⟨_, [], trivial, rfl, rfl, fun h => ⟨h, h, rfl, rfl, rfl⟩, ?_⟩
  refine ⟨⟨fun hc => hc, fun _ => trivial⟩, ?_⟩
  refine ⟨_, [], trivial, rfl, rfl, fun h => ⟨rfl, rfl, rfl⟩, ?_⟩
  refine ⟨_, [], trivial, rfl, rfl, fun h => ⟨h, rfl, rfl, rfl⟩, ?_⟩
  refine ⟨_, [], trivial, rfl, rfl, fun h => ⟨rfl, rfl, rfl⟩, ?_⟩
  refine ⟨_, [], trivial, rfl, rfl, fun h => ⟨h, h, rfl, rfl, rfl⟩, ?_⟩
  refine ⟨_, [], trivial, rfl, rfl, fun h => ⟨rfl, rfl, rfl⟩, ?_⟩
  refine ⟨_, [], trivial, rfl, rfl, fun h => ⟨h, h, rfl, rfl, rfl⟩, ?_⟩
  refine ⟨⟨fun hc => hc, fun _ => trivial⟩, ?_⟩
  refine (Tri.cond ⟨fun h1 => ?_, fun h1 => ?_⟩)
  · refine (Tri.reg hT ?_)
    refine ⟨by rw [hw]; omega, ?_⟩
    refine Tri.seq (Tri.reg hT ?_)
    refine .inl (.inl ⟨_, fun _ => rfl, f28_spec _ _ _ hv (by decide) (by rw [hw, hl]; omega) (by rw [hw, hl]; omega), ?_⟩)
    refine Tri.seq (Tri.reg hT ?_)
    refine .inl (.inl ⟨_, fun _ => rfl, f29_spec _ (by simp [intsOf]; omega), ?_⟩)
    refine Tri.ret ?_
    exact ⟨by rw [hw, he]; rfl, trivial⟩
  · rw [hv, hw2] at h1; simp at h1; omega

def stampsA (o : List optT.D) : Int × Int × Bool :=
  if (optionR o 8 8).2 = true then (IntKind.u32.wrap (num (intsOf (((optionR o 8 8).1.take 4).drop 0))), IntKind.u32.wrap (num (intsOf (((optionR o 8 8).1.take 8).drop 4))), true) else (0, 0, false)
theorem optionR_len {o : List optT.D} {k n : Int} (h : (optionR o k n).2 = true) : ((optionR o k n).1.length : Int) = n := by
  unfold optionR at h ⊢
  split at h <;> simp_all
theorem f24_spec (a b s k f w u : Int) (o : List optT.D) (p : List UInt8) (ho : o.length < 9223372036854775807) :
    PSpec P G 24 [tcpV a b s k f w u o p] (.tup [.int .u32 (stampsA o).1, .int .u32 (stampsA o).2.1, .bool (stampsA o).2.2]) := by
  refine pspec_intro hT Tryd.func24 (by decide) rfl rfl (by kernel_rfl) rfl ?_
  refine Tri.seq (Tri.reg hT ?_)
  refine Tri.seq (Tri.reg hT ?_)
  refine .inl (.inl ⟨_, fun _ => rfl, f25_spec _ _ _ _ _ _ _ _ _ _ _ ho, ?_⟩)
  refine Tri.seq ?_
  refine Tri.seq (Tri.reg hT ?_)
  refine (Tri.cond ⟨fun h1 => ?_, fun h1 => ?_⟩)
  · refine Tri.seq (Tri.reg hT ?_)
    refine Tri.ret ?_
    simp at h1; exact ⟨by simp only [stampsA, h1]; rfl, trivial⟩
  · refine (Tri.skip ?_)
    refine Tri.seq (Tri.reg hT ?_)
    refine .inl (.inl ⟨_, fun _ => rfl, f26_spec _ _ _ (by decide) (by decide) (by simp at h1; have := optionR_len h1; omega) (by simp at h1; have := optionR_len h1; omega), ?_⟩)
    refine Tri.seq (Tri.reg hT ?_)
    refine .inl (.inl ⟨_, fun _ => rfl, f26_spec _ _ _ (by decide) (by decide) (by simp at h1; have := optionR_len h1; omega) (by simp at h1; have := optionR_len h1; omega), ?_⟩)
    refine Tri.seq (Tri.reg hT ?_)
    refine Tri.ret ?_
    simp at h1; exact ⟨by simp only [stampsA, h1]; rfl, trivial⟩

def oldA (o : List optT.D) (stamp : Int) : Bool := !(stampsA o).2.2 || decide (diff (stampsA o).1 stamp < 0)
theorem f20_spec (a b s k f w u : Int) (o : List optT.D) (p : List UInt8) (stamp : Int) (ho : o.length < 9223372036854775807) :
    PSpec P G 20 [tcpV a b s k f w u o p, .int .u32 stamp] (.bool (oldA o stamp)) := by
  refine pspec_intro hT Tryd.func20 (by decide) rfl rfl (by kernel_rfl) rfl ?_
  refine Tri.seq (Tri.reg hT ?_)
  refine Tri.seq (Tri.reg hT ?_)
  refine .inl (.inl ⟨_, fun _ => rfl, f24_spec _ _ _ _ _ _ _ _ _ ho, ?_⟩)
  refine Tri.seq (Tri.reg hT ?_)
  refine ⟨_, [], trivial, rfl, rfl, fun h => ⟨rfl, rfl, rfl⟩, ?_⟩
  refine ⟨_, [], trivial, rfl, rfl, fun h => ⟨rfl, rfl, rfl⟩, ?_⟩
  refine ⟨_, [], trivial, rfl, rfl, fun h => ⟨h, h, (.inl ⟨_, fun _ => rfl, f19_spec .., rfl, rfl, rfl⟩)⟩, ?_⟩
  refine ⟨⟨fun _ => trivial, fun hc => (gn hc)⟩, ?_⟩
  refine Tri.ret ?_
  exact ⟨congrArg AV.bool (by simp [oldA]), trivial⟩

def byteI (d : List UInt8) (i : Nat) : Int := ((d.getD i 0).toNat : Int)
def u32add (a b : Int) : Int := IntKind.u32.wrap (a + b)
def fourR (d : List UInt8) : Int := u32add (u32add (u32add (IntKind.u32.wrap (IntKind.u32.wrap (byteI d 0) * 16777216)) (IntKind.u32.wrap (IntKind.u32.wrap (byteI d 1) * 65536))) (IntKind.u32.wrap (IntKind.u32.wrap (byteI d 2) * 256))) (IntKind.u32.wrap (byteI d 3))
def stampR (o : List optT.D) : Int × Bool :=
  match o.find? (fun x => decide (x.1 = 8)) with
  | some x => if x.2.1.length = 8 then (fourR x.2.1, true) else (0, false)
  | none => (0, false)
theorem stampAt {o : List optT.D} {i : Nat} (h : o.find? (fun x => decide (x.1 = 8)) = (o.drop i).find? (fun x => decide (x.1 = 8))) (hi : i < o.length) (hk : (o.getD i (Ty.dflt optT)).1 = 8) :
    stampR o = if (o.getD i (Ty.dflt optT)).2.1.length = 8 then (fourR (o.getD i (Ty.dflt optT)).2.1, true) else (0, false) := by
  rw [drop_getD (Ty.dflt optT) hi, List.find?_cons_of_pos (p := fun x : optT.D => decide (x.1 = 8)) (by simpa using hk)] at h
  simp only [stampR, h]
theorem f22_spec (o : List optT.D) (ho : o.length < 9223372036854775807) : PSpec P G 22 [.list optT o] (.tup [.int .u32 (stampR o).1, .bool (stampR o).2]) := by
  refine pspec_intro hT Tryd.func22 (by decide) rfl rfl (by kernel_rfl) rfl ?_
  refine Tri.seq (Tri.reg hT ?_)
  refine Tri.seq ?_
  refine Tri.seq (Tri.reg hT ?_)
  refine (Tri.block ?_)
  refine (Tri.loop (ι := Nat) (fun i => ⟨44, 0, 0, [(0, .list optT o), (2, .int .u32 0), (3, .bool false), (4, .int .i64 (i : Int))], [], G⟩) (fun i => i ≤ o.length ∧ o.find? (fun x => decide (x.1 = 8)) = (o.drop i).find? (fun x => decide (x.1 = 8))) (fun i => o.length - i) (0) ?_ ?_ ?_)
  · exact ⟨by omega, rfl⟩
  · exact Le.weak rfl rfl rfl rfl ⟨rfl, rfl, rfl, rfl, trivial⟩ trivial
  · intro i hi
    refine Tri.seq ?_
    refine Tri.seq (Tri.reg hT ?_)
    refine (Tri.cond ⟨fun h1 => ?_, fun h1 => ?_⟩)
    · refine (Tri.skip ?_)
      refine Tri.seq (Tri.block ?_)
      refine Tri.seq ?_
      refine Tri.seq (Tri.reg hT ?_)
      refine ⟨by simp at h1 ⊢; omega, ?_⟩
      refine (Tri.cond ⟨fun h2 => ?_, fun h2 => ?_⟩)
      · refine Tri.exit ?_
        refine (Tri.reg hT ?_)
        simp at h1; have hd := drop_getD (Ty.dflt optT) (show i < o.length by omega); rw [toNat_cast] at h2; exact ⟨i + 1, ⟨by omega, by rw [hi.2, hd, List.find?_cons_of_neg (p := fun x : optT.D => decide (x.1 = 8)) (by simpa using h2)]⟩, by omega, Le.weak rfl rfl rfl rfl ⟨rfl, rfl, rfl, iv1 (by omega), trivial⟩ trivial⟩
      · refine (Tri.skip ?_)
        refine Tri.seq (Tri.reg hT ?_)
        refine ⟨by simp at h1 ⊢; omega, ?_⟩
        refine Tri.seq ?_
        refine Tri.seq (Tri.reg hT ?_)
        refine (Tri.cond ⟨fun h3 => ?_, fun h3 => ?_⟩)
        · refine Tri.seq (Tri.reg hT ?_)
          refine Tri.ret ?_
          have h3' := of_decide_eq_true h3; exact ⟨by rw [stampAt hi.2 (by simpa using h1) (by simpa using h2), if_neg (fun e => h3' (by rw [toNat_cast, e]; rfl))]; rfl, trivial⟩
        · refine (Tri.skip ?_)
          refine Tri.seq (Tri.drw hT hm 18 (by kernel_rfl) ?_)
          refine ⟨by have := of_decide_eq_false h3; omega, ?_⟩
          refine ⟨by have := of_decide_eq_false h3; omega, ?_⟩
          refine ⟨by have := of_decide_eq_false h3; omega, ?_⟩
          refine ⟨by have := of_decide_eq_false h3; omega, ?_⟩
          refine ⟨by kernel_rfl, ?_⟩
          refine Tri.ret ?_
          have h3' := of_decide_eq_false h3; rw [toNat_cast] at h3'; exact ⟨by rw [stampAt hi.2 (by simpa using h1) (by simpa using h2), if_pos (by omega)]; rfl, trivial⟩
    · refine Tri.exit ?_
      refine Tri.seq (Tri.reg hT ?_)
      refine Tri.ret ?_
      simp at h1; exact ⟨by simp only [stampR, hi.2, List.drop_of_length_le h1, List.find?_nil]; rfl, trivial⟩

def segA (s k f : Int) (o : List optT.D) (n : Int) (op : Bool) (nx sn w : Int) (st : Bool) (stamp : Int) (stamps : Bool) : Int :=
  if (!flags f) = true then 3
  else if decide (bitop .i64 .and f 2 ≠ 0) && !op then 0
  else if decide (bitop .i64 .and f 2 ≠ 0) then 7
  else if !op then 7
  else if decide (bitop .i64 .and f 4 ≠ 0) && decide (s = nx) then 0
  else if decide (bitop .i64 .and f 4 ≠ 0) then 6
  else if decide (bitop .i64 .and f 16 = 0) || decide (diff sn k < 0) then 4
  else if stamps && st && oldA o stamp then 5
  else if !within s n nx w then 6
  else 0
theorem f14_spec (a b s k f w' u : Int) (o : List optT.D) (p : List UInt8) (op : Bool) (nx sn w : Int) (st : Bool) (stamp : Int)
    (nm : List UInt8) (v6 : Bool) (hi lo ln pol frag hops win : Int) (stamps : Bool) (val : Int) (sv : List svcT.D) (ho : o.length < 9223372036854775807) :
    PSpec P G 14 [tcpV a b s k f w' u o p, viewV op nx sn w st stamp, assetV nm v6 hi lo ln pol frag hops win stamps val sv] (.int .i64 (segA s k f o p.length op nx sn w st stamp stamps)) := by
  refine pspec_intro hT Tryd.func14 (by decide) rfl rfl (by kernel_rfl) rfl ?_
  refine Tri.seq (Tri.reg hT ?_)
  refine Tri.seq (Tri.block ?_)
  refine Tri.seq (Tri.block ?_)
  refine Tri.seq (Tri.block ?_)
  refine Tri.seq (Tri.block ?_)
  refine Tri.seq (Tri.block ?_)
  refine Tri.seq (Tri.block ?_)
  refine Tri.seq (Tri.block ?_)
  refine (Tri.block ?_)
  refine Tri.seq (Tri.block ?_)
  refine Tri.seq (Tri.block ?_)
  refine Tri.seq ?_
  refine Tri.seq ?_
  refine Tri.seq (Tri.reg hT ?_)
  refine .inl (.inl ⟨_, fun _ => rfl, f8_spec .., ?_⟩)
  refine (Tri.cond ⟨fun h1 => ?_, fun h1 => ?_⟩)
  · refine Tri.exit ?_
    refine Tri.seq ?_
    refine Tri.seq (Tri.reg hT ?_)
    refine Tri.ret ?_
    refine ⟨congrArg (AV.int .i64) ?_, trivial⟩; simp_all [segA] <;> rw [if_neg (by omega), if_neg (by rintro ⟨⟨q1, q2⟩, q3⟩; rw [h8 q1 q2] at q3; cases q3)]
  · refine (Tri.skip ?_)
    refine Tri.seq ?_
    refine Tri.seq (Tri.reg hT ?_)
    refine ⟨_, [], trivial, rfl, rfl, fun h => ⟨rfl, rfl, rfl⟩, ?_⟩
    refine ⟨_, [], trivial, rfl, rfl, fun h => ⟨h, rfl, rfl, rfl⟩, ?_⟩
    refine ⟨_, [], trivial, rfl, rfl, fun h => ⟨h, rfl, rfl, rfl⟩, ?_⟩
    refine ⟨⟨fun hc => hc, fun _ => trivial⟩, ?_⟩
    refine (Tri.cond ⟨fun h2 => ?_, fun h2 => ?_⟩)
    · refine Tri.exit ?_
      refine Tri.seq ?_
      refine Tri.seq (Tri.reg hT ?_)
      refine Tri.ret ?_
      refine ⟨congrArg (AV.int .i64) ?_, trivial⟩; simp_all [segA] <;> rw [if_neg (by omega), if_neg (by rintro ⟨⟨q1, q2⟩, q3⟩; rw [h8 q1 q2] at q3; cases q3)]
    · refine (Tri.skip ?_)
      refine Tri.seq ?_
      refine Tri.seq (Tri.reg hT ?_)
      refine (Tri.cond ⟨fun h3 => ?_, fun h3 => ?_⟩)
      · refine Tri.exit ?_
        refine Tri.seq ?_
        refine Tri.seq (Tri.reg hT ?_)
        refine Tri.ret ?_
        refine ⟨congrArg (AV.int .i64) ?_, trivial⟩; simp_all [segA] <;> rw [if_neg (by omega), if_neg (by rintro ⟨⟨q1, q2⟩, q3⟩; rw [h8 q1 q2] at q3; cases q3)]
      · refine (Tri.skip ?_)
        refine Tri.seq ?_
        refine Tri.seq (Tri.reg hT ?_)
        refine (Tri.cond ⟨fun h4 => ?_, fun h4 => ?_⟩)
        · refine Tri.exit ?_
          refine Tri.seq ?_
          refine Tri.seq (Tri.reg hT ?_)
          refine Tri.ret ?_
          refine ⟨congrArg (AV.int .i64) ?_, trivial⟩; simp_all [segA] <;> rw [if_neg (by omega), if_neg (by rintro ⟨⟨q1, q2⟩, q3⟩; rw [h8 q1 q2] at q3; cases q3)]
        · refine (Tri.skip ?_)
          refine Tri.seq ?_
          refine Tri.seq (Tri.reg hT ?_)
          refine ⟨_, [], trivial, rfl, rfl, fun h => ⟨rfl, rfl, rfl⟩, ?_⟩
          refine ⟨_, [], trivial, rfl, rfl, fun h => ⟨h, rfl, rfl, rfl⟩, ?_⟩
          refine ⟨_, [], trivial, rfl, rfl, fun h => ⟨rfl, rfl, rfl⟩, ?_⟩
          refine ⟨_, [], trivial, rfl, rfl, fun h => ⟨h, rfl, rfl, rfl⟩, ?_⟩
          refine ⟨_, [], trivial, rfl, rfl, fun h => ⟨h, h, rfl, rfl, rfl⟩, ?_⟩
          refine ⟨⟨fun hc => hc, fun _ => trivial⟩, ?_⟩
          refine (Tri.cond ⟨fun h5 => ?_, fun h5 => ?_⟩)
          · refine Tri.exit ?_
            refine Tri.seq ?_
            refine Tri.seq (Tri.reg hT ?_)
            refine Tri.ret ?_
            refine ⟨congrArg (AV.int .i64) ?_, trivial⟩; simp_all [segA] <;> rw [if_neg (by omega), if_neg (by rintro ⟨⟨q1, q2⟩, q3⟩; rw [h8 q1 q2] at q3; cases q3)]
          · refine (Tri.skip ?_)
            refine Tri.seq ?_
            refine Tri.seq (Tri.reg hT ?_)
            refine (Tri.cond ⟨fun h6 => ?_, fun h6 => ?_⟩)
            · refine Tri.exit ?_
              refine Tri.seq ?_
              refine Tri.seq (Tri.reg hT ?_)
              refine Tri.ret ?_
              refine ⟨congrArg (AV.int .i64) ?_, trivial⟩; simp_all [segA] <;> rw [if_neg (by omega), if_neg (by rintro ⟨⟨q1, q2⟩, q3⟩; rw [h8 q1 q2] at q3; cases q3)]
            · refine (Tri.skip ?_)
              refine Tri.seq ?_
              refine Tri.seq (Tri.reg hT ?_)
              refine ⟨_, [], trivial, rfl, rfl, fun h => ⟨rfl, rfl, rfl⟩, ?_⟩
              refine ⟨_, [], trivial, rfl, rfl, fun h => ⟨h, rfl, rfl, rfl⟩, ?_⟩
              refine ⟨_, [], trivial, rfl, rfl, fun h => ⟨rfl, rfl, rfl⟩, ?_⟩
              refine ⟨_, [], trivial, rfl, rfl, fun h => ⟨h, rfl, rfl, rfl⟩, ?_⟩
              refine ⟨_, [], trivial, rfl, rfl, fun h => ⟨h, h, (.inl ⟨_, fun _ => rfl, f19_spec .., rfl, rfl, rfl⟩)⟩, ?_⟩
              refine ⟨⟨fun _ => trivial, fun hc => (gn hc)⟩, ?_⟩
              refine (Tri.cond ⟨fun h7 => ?_, fun h7 => ?_⟩)
              · refine Tri.exit ?_
                refine Tri.seq ?_
                refine Tri.seq (Tri.reg hT ?_)
                refine Tri.ret ?_
                refine ⟨congrArg (AV.int .i64) ?_, trivial⟩; simp_all [segA] <;> rw [if_neg (by omega), if_neg (by rintro ⟨⟨q1, q2⟩, q3⟩; rw [h8 q1 q2] at q3; cases q3)]
              · refine (Tri.skip ?_)
                refine Tri.seq ?_
                refine Tri.seq (Tri.reg hT ?_)
                refine ⟨_, [], trivial, rfl, rfl, fun h => ⟨rfl, rfl, rfl⟩, ?_⟩
                refine ⟨_, [], trivial, rfl, rfl, fun h => ⟨h, rfl, rfl, rfl⟩, ?_⟩
                refine ⟨⟨fun hc => hc, fun _ => trivial⟩, ?_⟩
                refine ⟨_, [], trivial, rfl, rfl, fun h => ⟨rfl, rfl, rfl⟩, ?_⟩
                refine ⟨_, [], trivial, rfl, rfl, fun h => ⟨rfl, rfl, rfl⟩, ?_⟩
                refine ⟨_, [], trivial, rfl, rfl, fun h => ⟨h, rfl, rfl, rfl⟩, ?_⟩
                refine ⟨_, [], trivial, rfl, rfl, fun h => ⟨h, h, (.inl ⟨_, fun _ => rfl, f20_spec _ _ _ _ _ _ _ _ _ _ ho, rfl, rfl, rfl⟩)⟩, ?_⟩
                refine ⟨⟨fun hc => hc, fun _ => trivial⟩, ?_⟩
                refine (Tri.cond ⟨fun h8 => ?_, fun h8 => ?_⟩)
                · refine Tri.exit ?_
                  refine Tri.seq ?_
                  refine Tri.seq (Tri.reg hT ?_)
                  refine Tri.ret ?_
                  refine ⟨congrArg (AV.int .i64) ?_, trivial⟩; simp_all [segA] <;> rw [if_neg (by omega), if_neg (by rintro ⟨⟨q1, q2⟩, q3⟩; rw [h8 q1 q2] at q3; cases q3)]
                · refine (Tri.skip ?_)
                  refine Tri.seq (Tri.reg hT ?_)
                  refine .inl (.inl ⟨_, fun _ => rfl, f16_spec .., ?_⟩)
                  refine (Tri.cond ⟨fun h9 => ?_, fun h9 => ?_⟩)
                  · refine Tri.exit ?_
                    refine Tri.seq ?_
                    refine Tri.seq (Tri.reg hT ?_)
                    refine Tri.ret ?_
                    refine ⟨congrArg (AV.int .i64) ?_, trivial⟩; simp_all [segA] <;> rw [if_neg (by omega), if_neg (by rintro ⟨⟨q1, q2⟩, q3⟩; rw [h8 q1 q2] at q3; cases q3)]
                  · refine (Tri.skip ?_)
                    refine Tri.exit ?_
                    refine Tri.seq (Tri.reg hT ?_)
                    refine Tri.ret ?_
                    refine ⟨congrArg (AV.int .i64) ?_, trivial⟩; simp_all [segA] <;> rw [if_neg (by omega), if_neg (by rintro ⟨⟨q1, q2⟩, q3⟩; rw [h8 q1 q2] at q3; cases q3)]

def segR (s k f : Int) (o : List optT.D) (n : Int) (op : Bool) (nx sn w : Int) (st : Bool) (stamp : Int) (stamps : Bool) : Int :=
  if (!flagsR f) = true then 3
  else if has f 2 then (if op then 7 else 0)
  else if !op then 7
  else if has f 4 then (if decide (s = nx) then 0 else 6)
  else if !has f 16 || beforeR sn k then 4
  else if stamps && st && (!(stampR o).2 || beforeR (stampR o).1 stamp) then 5
  else if !withinR s n nx w then 6
  else 0
theorem f15_spec (a b s k f w' u : Int) (o : List optT.D) (p : List UInt8) (op : Bool) (nx sn w : Int) (st : Bool) (stamp : Int)
    (nm : List UInt8) (v6 : Bool) (hi lo ln pol frag hops win : Int) (stamps : Bool) (val : Int) (sv : List svcT.D) (ho : o.length < 9223372036854775807) :
    PSpec P G 15 [tcpV a b s k f w' u o p, viewV op nx sn w st stamp, assetV nm v6 hi lo ln pol frag hops win stamps val sv] (.int .i64 (segR s k f o p.length op nx sn w st stamp stamps)) := by
  refine pspec_intro hT Tryd.func15 (by decide) rfl rfl (by kernel_rfl) rfl ?_
  refine Tri.seq (Tri.reg hT ?_)
  refine Tri.seq ?_
  refine Tri.seq (Tri.reg hT ?_)
  refine .inl (.inl ⟨_, fun _ => rfl, f9_spec .., ?_⟩)
  refine (Tri.cond ⟨fun h1 => ?_, fun h1 => ?_⟩)
  · refine Tri.seq (Tri.reg hT ?_)
    refine Tri.ret ?_
    refine ⟨congrArg (AV.int .i64) ?_, trivial⟩; simp_all [segR]
  · refine (Tri.skip ?_)
    refine Tri.seq ?_
    refine Tri.seq (Tri.reg hT ?_)
    refine .inl (.inl ⟨_, fun _ => rfl, f18_spec .., ?_⟩)
    refine (Tri.cond ⟨fun h2 => ?_, fun h2 => ?_⟩)
    · refine Tri.seq ?_
      refine Tri.seq (Tri.reg hT ?_)
      refine (Tri.cond ⟨fun h3 => ?_, fun h3 => ?_⟩)
      · refine Tri.seq (Tri.reg hT ?_)
        refine Tri.ret ?_
        refine ⟨congrArg (AV.int .i64) ?_, trivial⟩; simp_all [segR]
      · refine (Tri.skip ?_)
        refine Tri.seq (Tri.reg hT ?_)
        refine Tri.ret ?_
        refine ⟨congrArg (AV.int .i64) ?_, trivial⟩; simp_all [segR]
    · refine (Tri.skip ?_)
      refine Tri.seq ?_
      refine Tri.seq (Tri.reg hT ?_)
      refine (Tri.cond ⟨fun h4 => ?_, fun h4 => ?_⟩)
      · refine Tri.seq (Tri.reg hT ?_)
        refine Tri.ret ?_
        refine ⟨congrArg (AV.int .i64) ?_, trivial⟩; simp_all [segR]
      · refine (Tri.skip ?_)
        refine Tri.seq ?_
        refine Tri.seq (Tri.reg hT ?_)
        refine .inl (.inl ⟨_, fun _ => rfl, f18_spec .., ?_⟩)
        refine (Tri.cond ⟨fun h5 => ?_, fun h5 => ?_⟩)
        · refine Tri.seq ?_
          refine Tri.seq (Tri.reg hT ?_)
          refine (Tri.cond ⟨fun h6 => ?_, fun h6 => ?_⟩)
          · refine Tri.seq (Tri.reg hT ?_)
            refine Tri.ret ?_
            refine ⟨congrArg (AV.int .i64) ?_, trivial⟩; simp_all [segR]
          · refine (Tri.skip ?_)
            refine Tri.seq (Tri.reg hT ?_)
            refine Tri.ret ?_
            refine ⟨congrArg (AV.int .i64) ?_, trivial⟩; simp_all [segR]
        · refine (Tri.skip ?_)
          refine Tri.seq ?_
          refine Tri.seq (Tri.reg hT ?_)
          refine .inl (.inl ⟨_, fun _ => rfl, f18_spec .., ?_⟩)
          refine ⟨_, [], trivial, rfl, rfl, fun h => ⟨rfl, rfl, rfl⟩, ?_⟩
          refine ⟨_, [], trivial, rfl, rfl, fun h => ⟨h, rfl, rfl, rfl⟩, ?_⟩
          refine ⟨_, [], trivial, rfl, rfl, fun h => ⟨rfl, rfl, rfl⟩, ?_⟩
          refine ⟨_, [], trivial, rfl, rfl, fun h => ⟨h, rfl, rfl, rfl⟩, ?_⟩
          refine ⟨_, [], trivial, rfl, rfl, fun h => ⟨h, h, (.inl ⟨_, fun _ => rfl, f21_spec .., rfl, rfl, rfl⟩)⟩, ?_⟩
          refine ⟨⟨fun _ => trivial, fun hc => (gn hc)⟩, ?_⟩
          refine (Tri.cond ⟨fun h7 => ?_, fun h7 => ?_⟩)
          · refine Tri.seq (Tri.reg hT ?_)
            refine Tri.ret ?_
            refine ⟨congrArg (AV.int .i64) ?_, trivial⟩; simp_all [segR]
          · refine (Tri.skip ?_)
            refine Tri.seq (Tri.reg hT ?_)
            refine .inl (.inl ⟨_, fun _ => rfl, f22_spec _ ho, ?_⟩)
            refine Tri.seq ?_
            refine Tri.seq (Tri.reg hT ?_)
            refine ⟨_, [], trivial, rfl, rfl, fun h => ⟨rfl, rfl, rfl⟩, ?_⟩
            refine ⟨_, [], trivial, rfl, rfl, fun h => ⟨h, rfl, rfl, rfl⟩, ?_⟩
            refine ⟨⟨fun hc => hc, fun _ => trivial⟩, ?_⟩
            refine ⟨_, [], trivial, rfl, rfl, fun h => ⟨rfl, rfl, rfl⟩, ?_⟩
            refine ⟨_, [], trivial, rfl, rfl, fun h => ⟨h, rfl, rfl, rfl⟩, ?_⟩
            refine ⟨_, [], trivial, rfl, rfl, fun h => ⟨h, rfl, rfl, rfl⟩, ?_⟩
            refine ⟨_, [], trivial, rfl, rfl, fun h => ⟨rfl, rfl, rfl⟩, ?_⟩
            refine ⟨_, [], trivial, rfl, rfl, fun h => ⟨rfl, rfl, rfl⟩, ?_⟩
            refine ⟨_, [], trivial, rfl, rfl, fun h => ⟨h, rfl, rfl, rfl⟩, ?_⟩
            refine ⟨_, [], trivial, rfl, rfl, fun h => ⟨h, h, (.inl ⟨_, fun _ => rfl, f21_spec .., rfl, rfl, rfl⟩)⟩, ?_⟩
            refine ⟨_, [], trivial, rfl, rfl, fun h => ⟨h, ⟨fun _ => trivial, fun hc => ga h (gn hc)⟩, rfl, rfl, rfl⟩, ?_⟩
            refine ⟨⟨fun hc => hc, fun _ => trivial⟩, ?_⟩
            refine (Tri.cond ⟨fun h8 => ?_, fun h8 => ?_⟩)
            · refine Tri.seq (Tri.reg hT ?_)
              refine Tri.ret ?_
              refine ⟨congrArg (AV.int .i64) ?_, trivial⟩; simp_all [segR]
            · refine (Tri.skip ?_)
              refine Tri.seq ?_
              refine Tri.seq (Tri.reg hT ?_)
              refine .inl (.inl ⟨_, fun _ => rfl, f17_spec .., ?_⟩)
              refine (Tri.cond ⟨fun h9 => ?_, fun h9 => ?_⟩)
              · refine Tri.seq (Tri.reg hT ?_)
                refine Tri.ret ?_
                refine ⟨congrArg (AV.int .i64) ?_, trivial⟩; simp_all [segR]
              · refine (Tri.skip ?_)
                refine Tri.seq (Tri.reg hT ?_)
                refine Tri.ret ?_
                refine ⟨congrArg (AV.int .i64) ?_, trivial⟩; simp_all [segR]

def longR (o : List optT.D) (p : List UInt8) : Bool := decide ((o.length : Int) > 10) || decide ((p.length : Int) > 2000) || o.any (fun x => decide ((x.2.1.length : Int) > 40))
theorem f13_spec (a b s k f w u : Int) (o : List optT.D) (p : List UInt8) :
    PSpec P G 13 [tcpV a b s k f w u o p] (.bool (longR o p)) := by
  refine pspec_intro hT Tryd.func13 (by decide) rfl rfl (by kernel_rfl) rfl ?_
  refine Tri.seq (Tri.reg hT ?_)
  refine Tri.seq ?_
  refine Tri.seq (Tri.reg hT ?_)
  refine ⟨_, [], trivial, rfl, rfl, fun h => ⟨rfl, rfl, rfl⟩, ?_⟩
  refine ⟨_, [], trivial, rfl, rfl, fun h => ⟨h, rfl, rfl, rfl⟩, ?_⟩
  refine ⟨_, [], trivial, rfl, rfl, fun h => ⟨h, rfl, rfl, rfl⟩, ?_⟩
  refine ⟨_, [], trivial, rfl, rfl, fun h => ⟨h, rfl, rfl, rfl⟩, ?_⟩
  refine ⟨⟨fun _ => trivial, fun hc => (gn hc)⟩, ?_⟩
  refine (Tri.cond ⟨fun h1 => ?_, fun h1 => ?_⟩)
  · refine Tri.seq (Tri.reg hT ?_)
    refine Tri.ret ?_
    simp only [Bool.if_false_right, Bool.if_true_left, Bool.decide_eq_true] at *; exact ⟨congrArg AV.bool (by simp only [longR, h1, Bool.true_or]), trivial⟩
  · refine (Tri.skip ?_)
    refine Tri.seq ?_
    refine Tri.seq (Tri.reg hT ?_)
    refine (Tri.block ?_)
    refine (Tri.loop (ι := Nat) (fun i => ⟨29, 0, 1, [(1, .loc 0 0), (2, .bool false), (3, .int .i64 (i : Int))], [(0, .box [.int .i64 a, .int .i64 b, .int .u32 s, .int .u32 k, .int .i64 f, .int .i64 w, .int .i64 u, .list optT o, .str p])], G⟩) (fun i => i ≤ o.length ∧ ∀ j, j < i → (o.getD j (Ty.dflt optT)).2.1.length ≤ 40) (fun i => o.length - i) (0) ?_ ?_ ?_)
    · exact ⟨Nat.zero_le _, fun j hj => by omega⟩
    · exact Le.weak rfl rfl rfl rfl ⟨rfl, rfl, rfl, trivial⟩ ⟨rfl, trivial⟩
    · intro i hi
      refine Tri.seq ?_
      refine Tri.seq (Tri.reg hT ?_)
      refine (Tri.cond ⟨fun h2 => ?_, fun h2 => ?_⟩)
      · refine (Tri.skip ?_)
        refine Tri.seq (Tri.block ?_)
        refine Tri.seq (Tri.reg hT ?_)
        refine ⟨by have := of_decide_eq_true h2; omega, ?_⟩
        refine (Tri.cond ⟨fun h3 => ?_, fun h3 => ?_⟩)
        · refine Tri.seq (Tri.reg hT ?_)
          refine Tri.ret ?_
          have h2' := of_decide_eq_true h2; have h3' := of_decide_eq_true h3; rw [toNat_cast] at h3'; exact ⟨congrArg AV.bool (by rw [longR, (List.any_eq_true.2 ⟨_, getD_mem (d := Ty.dflt optT) (by omega), decide_eq_true h3'⟩ : o.any (fun x => decide ((x.2.1.length : Int) > 40)) = true), Bool.or_true]), trivial⟩
        · refine (Tri.skip ?_)
          refine (Tri.reg hT ?_)
          have h2' := of_decide_eq_true h2; have h3' := of_decide_eq_false h3; rw [toNat_cast] at h3'; exact ⟨i + 1, ⟨by omega, fun j hj => (by rcases Nat.lt_or_ge j i with h | h; exact hi.2 j h; obtain rfl : j = i := (by omega); omega)⟩, by omega, Le.weak rfl rfl rfl rfl ⟨rfl, rfl, iv1 (by simp at h1; omega), trivial⟩ ⟨rfl, trivial⟩⟩
      · refine Tri.exit ?_
        refine Tri.seq (Tri.reg hT ?_)
        refine Tri.ret ?_
        have h2' := of_decide_eq_false h2; exact ⟨congrArg AV.bool (by rw [longR, List.any_eq_false.2 (fun x hx => by obtain ⟨j, hj, rfl⟩ := mem_getD (Ty.dflt optT) hx; have := hi.2 j (by omega); simp only [decide_eq_true_eq]; omega), Bool.or_false]; simp only [Bool.if_false_right, Bool.if_true_left, Bool.decide_eq_true] at h1; exact h1.symm), trivial⟩
end Go.Proofs.YtfhadpmlbilebaaDoor.Fx

import Derived.Test.YtchiagnggnblaaaDoorAcB
set_option linter.all false
/- Contracts of chapter 19, continued: time stamps, segments. -/
namespace Go.Proofs.YtchiagnggnblaaaDoor.Ac
open Go Go.Fw Go.Proofs.YtchiagnggnblaaaDoor.Fx

theorem intsOf_take (s : List UInt8) (n : Nat) : (intsOf s).take n = intsOf (s.take n) := by simp [intsOf]
theorem f46_spec (s : List UInt8) (at_ n : Int) (hv : valid n = true) (h0 : 0 ≤ at_) (hL : at_ + n ≤ s.length) (hs : s.length ≤ 140737488355328) :
    PSpec P G 46 [.str s, .int .i64 at_, .int .i64 n] (.tup [.int .i64 (num (intsOf ((s.take (at_ + n).toNat).drop at_.toNat))), .int .i64 0]) := by
  have hn : 1 ≤ n ∧ n ≤ 7 := by simpa [valid] using hv
  have hw : IntKind.i64.wrap (at_ + n) = at_ + n := wrapId (by omega)
  have hw2 : IntKind.i64.wrap (s.length - at_) = s.length - at_ := wrapId (by omega)
  have hl : ((s.take (at_ + n).toNat).drop at_.toNat).length = n.toNat := by simp; omega
  have he : (intsOf ((s.take (at_ + n).toNat).drop at_.toNat)).take (0 + n).toNat = intsOf ((s.take (at_ + n).toNat).drop at_.toNat) := by
    rw [intsOf_take, List.take_of_length_le (by omega)]
  refine pspec_intro hT Tryd.func46 (by decide) rfl rfl (by kernel_rfl) rfl ?_
  refine Tri.seq (Tri.reg hT ?_)
  refine Tri.seq ?_
  refine Tri.seq (Tri.reg hT ?_)
  refine .inl (.inl ⟨_, fun _ => rfl, f52_spec .., ?_⟩)
  refine ⟨_, [], trivial, rfl, rfl, fun h => ⟨rfl, rfl, rfl⟩, ?_⟩
  refine ⟨_, [], trivial, rfl, rfl, fun h => ⟨h, rfl, rfl, rfl⟩, ?_⟩
  refine ⟨⟨fun hc => hc, fun _ => trivial⟩, ?_⟩
  refine ⟨_, [], trivial, rfl, rfl, fun h => ⟨rfl, rfl, rfl⟩, ?_⟩
  refine ⟨_, [], trivial, rfl, rfl, fun h => ⟨rfl, rfl, rfl⟩, ?_⟩
  refine ⟨_, [], trivial, rfl, rfl, fun h => ⟨h, rfl, rfl, rfl⟩, ?_⟩
  refine ⟨_, [], trivial, rfl, rfl, fun h => ⟨h, h, rfl, rfl, rfl⟩, ?_⟩
  refine ⟨⟨fun hc => hc, fun _ => trivial⟩, ?_⟩
  refine ⟨_, [], trivial, rfl, rfl, fun h => ⟨rfl, rfl, rfl⟩, ?_⟩
  refine ⟨_, [], trivial, rfl, rfl, fun h => ⟨h, rfl, rfl, rfl⟩, ?_⟩
  refine ⟨_, [], trivial, rfl, rfl, fun h => ⟨rfl, rfl, rfl⟩, ?_⟩
  refine ⟨_, [], trivial, rfl, rfl, fun h => ⟨h, h, rfl, rfl, rfl⟩, ?_⟩
  refine ⟨_, [], trivial, rfl, rfl, fun h => ⟨rfl, rfl, rfl⟩, ?_⟩
  refine ⟨_, [], trivial, rfl, rfl, fun h => ⟨h, h, rfl, rfl, rfl⟩, ?_⟩
  refine ⟨⟨fun hc => hc, fun _ => trivial⟩, ?_⟩
  refine (Tri.cond ⟨fun h1 => ?_, fun h1 => ?_⟩)
  · refine (Tri.reg hT ?_)
    refine ⟨by rw [hw]; omega, ?_⟩
    refine Tri.seq (Tri.reg hT ?_)
    refine .inl (.inl ⟨_, fun _ => rfl, f53_spec _ _ _ hv (by decide) (by rw [hw, hl]; omega) (by rw [hw, hl]; omega), ?_⟩)
    refine Tri.seq (Tri.reg hT ?_)
    refine .inl (.inl ⟨_, fun _ => rfl, f54_spec _ (by simp [intsOf]; omega), ?_⟩)
    refine Tri.ret ?_
    exact ⟨by rw [hw, he]; rfl, trivial⟩
  · rw [hv, hw2] at h1; simp at h1; omega

def stampsA (o : List optT.D) : Int × Int × Bool :=
  if (optionR o 8 8).2 = true then (IntKind.u32.wrap (num (intsOf (((optionR o 8 8).1.take 4).drop 0))), IntKind.u32.wrap (num (intsOf (((optionR o 8 8).1.take 8).drop 4))), true) else (0, 0, false)
theorem optionR_len {o : List optT.D} {k n : Int} (h : (optionR o k n).2 = true) : ((optionR o k n).1.length : Int) = n := by
  unfold optionR at h ⊢
  split at h <;> simp_all
theorem f31_spec (a b s k f w u : Int) (o : List optT.D) (p : List UInt8) (ho : o.length < 9223372036854775807) :
    PSpec P G 31 [tcpV a b s k f w u o p] (.tup [.int .u32 (stampsA o).1, .int .u32 (stampsA o).2.1, .bool (stampsA o).2.2]) := by
  refine pspec_intro hT Tryd.func31 (by decide) rfl rfl (by kernel_rfl) rfl ?_
  refine Tri.seq (Tri.reg hT ?_)
  refine Tri.seq (Tri.reg hT ?_)
  refine .inl (.inl ⟨_, fun _ => rfl, f45_spec _ _ _ _ _ _ _ _ _ _ _ ho, ?_⟩)
  refine Tri.seq ?_
  refine Tri.seq (Tri.reg hT ?_)
  refine (Tri.cond ⟨fun h1 => ?_, fun h1 => ?_⟩)
  · refine Tri.seq (Tri.reg hT ?_)
    refine Tri.ret ?_
    simp at h1; exact ⟨by simp only [stampsA, h1]; rfl, trivial⟩
  · refine (Tri.skip ?_)
    refine Tri.seq (Tri.reg hT ?_)
    refine .inl (.inl ⟨_, fun _ => rfl, f46_spec _ _ _ (by decide) (by decide) (by simp at h1; have := optionR_len h1; omega) (by simp at h1; have := optionR_len h1; omega), ?_⟩)
    refine Tri.seq (Tri.reg hT ?_)
    refine .inl (.inl ⟨_, fun _ => rfl, f46_spec _ _ _ (by decide) (by decide) (by simp at h1; have := optionR_len h1; omega) (by simp at h1; have := optionR_len h1; omega), ?_⟩)
    refine Tri.seq (Tri.reg hT ?_)
    refine Tri.ret ?_
    simp at h1; exact ⟨by simp only [stampsA, h1]; rfl, trivial⟩

def oldA (o : List optT.D) (stamp : Int) : Bool := !(stampsA o).2.2 || decide (diff (stampsA o).1 stamp < 0)
theorem f37_spec (a b s k f w u : Int) (o : List optT.D) (p : List UInt8) (stamp : Int) (ho : o.length < 9223372036854775807) :
    PSpec P G 37 [tcpV a b s k f w u o p, .int .u32 stamp] (.bool (oldA o stamp)) := by
  refine pspec_intro hT Tryd.func37 (by decide) rfl rfl (by kernel_rfl) rfl ?_
  refine Tri.seq (Tri.reg hT ?_)
  refine Tri.seq (Tri.reg hT ?_)
  refine .inl (.inl ⟨_, fun _ => rfl, f31_spec _ _ _ _ _ _ _ _ _ ho, ?_⟩)
  refine Tri.seq (Tri.reg hT ?_)
  refine ⟨_, [], trivial, rfl, rfl, fun h => ⟨rfl, rfl, rfl⟩, ?_⟩
  refine ⟨_, [], trivial, rfl, rfl, fun h => ⟨rfl, rfl, rfl⟩, ?_⟩
  refine ⟨_, [], trivial, rfl, rfl, fun h => ⟨h, h, (.inl ⟨_, fun _ => rfl, f36_spec .., rfl, rfl, rfl⟩)⟩, ?_⟩
  refine ⟨⟨fun _ => trivial, fun hc => (gn hc)⟩, ?_⟩
  refine Tri.ret ?_
  exact ⟨congrArg AV.bool (by simp [oldA]), trivial⟩

def byteI (d : List UInt8) (i : Nat) : Int := ((d.getD i 0).toNat : Int)
def u32add (a b : Int) : Int := IntKind.u32.wrap (a + b)
def fourR (d : List UInt8) : Int := u32add (u32add (u32add (IntKind.u32.wrap (IntKind.u32.wrap (byteI d 0) * 16777216)) (IntKind.u32.wrap (IntKind.u32.wrap (byteI d 1) * 65536))) (IntKind.u32.wrap (IntKind.u32.wrap (byteI d 2) * 256))) (IntKind.u32.wrap (byteI d 3))
def stampR (o : List optT.D) : Int × Bool :=
  match o.find? (fun x => decide (x.1 = 8)) with
  | some x => if x.2.1.length = 8 then (fourR x.2.1, true) else (0, false)
  | none => (0, false)
theorem stampAt {o : List optT.D} {i : Nat} (h : o.find? (fun x => decide (x.1 = 8)) = (o.drop i).find? (fun x => decide (x.1 = 8))) (hi : i < o.length) (hk : (o.getD i (Ty.dflt optT)).1 = 8) :
    stampR o = if (o.getD i (Ty.dflt optT)).2.1.length = 8 then (fourR (o.getD i (Ty.dflt optT)).2.1, true) else (0, false) := by
  rw [drop_getD (Ty.dflt optT) hi, List.find?_cons_of_pos (p := fun x : optT.D => decide (x.1 = 8)) (by simpa using hk)] at h
  simp only [stampR, h]
def segA (s k f : Int) (o : List optT.D) (n : Int) (op : Bool) (nx sn w : Int) (st : Bool) (stamp : Int) (stamps : Bool) : Int :=
  if (!flags f) = true then 3
  else if decide (bitop .i64 .and f 2 ≠ 0) && !op then 0
  else if decide (bitop .i64 .and f 2 ≠ 0) then 7
  else if !op then 7
  else if decide (bitop .i64 .and f 4 ≠ 0) && decide (s = nx) then 0
  else if decide (bitop .i64 .and f 4 ≠ 0) then 6
  else if decide (bitop .i64 .and f 16 = 0) || decide (diff sn k < 0) then 4
  else if stamps && st && oldA o stamp then 5
  else if !within s n nx w then 6
  else 0
theorem f29_spec (a b s k f w' u : Int) (o : List optT.D) (p : List UInt8) (op : Bool) (nx sn w : Int) (st : Bool) (stamp : Int)
    (nm : List UInt8) (v6 : Bool) (hi lo ln pol frag hops win : Int) (stamps : Bool) (val : Int) (sv : List svcT.D) (ho : o.length < 9223372036854775807) :
    PSpec P G 29 [tcpV a b s k f w' u o p, viewV op nx sn w st stamp, assetV nm v6 hi lo ln pol frag hops win stamps val sv] (.int .i64 (segA s k f o p.length op nx sn w st stamp stamps)) := by
  refine pspec_intro hT Tryd.func29 (by decide) rfl rfl (by kernel_rfl) rfl ?_
  refine Tri.seq (Tri.reg hT ?_)
  refine Tri.seq (Tri.block ?_)
  refine Tri.seq (Tri.block ?_)
  refine Tri.seq (Tri.block ?_)
  refine Tri.seq (Tri.block ?_)
  refine Tri.seq (Tri.block ?_)
  refine Tri.seq (Tri.block ?_)
  refine Tri.seq (Tri.block ?_)
  refine (Tri.block ?_)
  refine Tri.seq (Tri.block ?_)
  refine Tri.seq (Tri.block ?_)
  refine Tri.seq ?_
  refine Tri.seq ?_
  refine Tri.seq (Tri.reg hT ?_)
  refine .inl (.inl ⟨_, fun _ => rfl, f19_spec .., ?_⟩)
  refine (Tri.cond ⟨fun h1 => ?_, fun h1 => ?_⟩)
  · refine Tri.exit ?_
    refine Tri.seq ?_
    refine Tri.seq (Tri.reg hT ?_)
    refine Tri.ret ?_
    refine ⟨congrArg (AV.int .i64) ?_, trivial⟩; simp_all [segA] <;> rw [if_neg (by omega), if_neg (by rintro ⟨⟨q1, q2⟩, q3⟩; rw [h8 q1 q2] at q3; cases q3)]
  · refine (Tri.skip ?_)
    refine Tri.seq ?_
    refine Tri.seq (Tri.reg hT ?_)
    refine ⟨_, [], trivial, rfl, rfl, fun h => ⟨rfl, rfl, rfl⟩, ?_⟩
    refine ⟨_, [], trivial, rfl, rfl, fun h => ⟨h, rfl, rfl, rfl⟩, ?_⟩
    refine ⟨_, [], trivial, rfl, rfl, fun h => ⟨h, rfl, rfl, rfl⟩, ?_⟩
    refine ⟨⟨fun hc => hc, fun _ => trivial⟩, ?_⟩
    refine (Tri.cond ⟨fun h2 => ?_, fun h2 => ?_⟩)
    · refine Tri.exit ?_
      refine Tri.seq ?_
      refine Tri.seq (Tri.reg hT ?_)
      refine Tri.ret ?_
      refine ⟨congrArg (AV.int .i64) ?_, trivial⟩; simp_all [segA] <;> rw [if_neg (by omega), if_neg (by rintro ⟨⟨q1, q2⟩, q3⟩; rw [h8 q1 q2] at q3; cases q3)]
    · refine (Tri.skip ?_)
      refine Tri.seq ?_
      refine Tri.seq (Tri.reg hT ?_)
      refine (Tri.cond ⟨fun h3 => ?_, fun h3 => ?_⟩)
      · refine Tri.exit ?_
        refine Tri.seq ?_
        refine Tri.seq (Tri.reg hT ?_)
        refine Tri.ret ?_
        refine ⟨congrArg (AV.int .i64) ?_, trivial⟩; simp_all [segA] <;> rw [if_neg (by omega), if_neg (by rintro ⟨⟨q1, q2⟩, q3⟩; rw [h8 q1 q2] at q3; cases q3)]
      · refine (Tri.skip ?_)
        refine Tri.seq ?_
        refine Tri.seq (Tri.reg hT ?_)
        refine (Tri.cond ⟨fun h4 => ?_, fun h4 => ?_⟩)
        · refine Tri.exit ?_
          refine Tri.seq ?_
          refine Tri.seq (Tri.reg hT ?_)
          refine Tri.ret ?_
          refine ⟨congrArg (AV.int .i64) ?_, trivial⟩; simp_all [segA] <;> rw [if_neg (by omega), if_neg (by rintro ⟨⟨q1, q2⟩, q3⟩; rw [h8 q1 q2] at q3; cases q3)]
        · refine (Tri.skip ?_)
          refine Tri.seq ?_
          refine Tri.seq (Tri.reg hT ?_)
          refine ⟨_, [], trivial, rfl, rfl, fun h => ⟨rfl, rfl, rfl⟩, ?_⟩
          refine ⟨_, [], trivial, rfl, rfl, fun h => ⟨h, rfl, rfl, rfl⟩, ?_⟩
          refine ⟨_, [], trivial, rfl, rfl, fun h => ⟨rfl, rfl, rfl⟩, ?_⟩
          refine ⟨_, [], trivial, rfl, rfl, fun h => ⟨h, rfl, rfl, rfl⟩, ?_⟩
          refine ⟨_, [], trivial, rfl, rfl, fun h => ⟨h, h, rfl, rfl, rfl⟩, ?_⟩
          refine ⟨⟨fun hc => hc, fun _ => trivial⟩, ?_⟩
          refine (Tri.cond ⟨fun h5 => ?_, fun h5 => ?_⟩)
          · refine Tri.exit ?_
            refine Tri.seq ?_
            refine Tri.seq (Tri.reg hT ?_)
            refine Tri.ret ?_
            refine ⟨congrArg (AV.int .i64) ?_, trivial⟩; simp_all [segA] <;> rw [if_neg (by omega), if_neg (by rintro ⟨⟨q1, q2⟩, q3⟩; rw [h8 q1 q2] at q3; cases q3)]
          · refine (Tri.skip ?_)
            refine Tri.seq ?_
            refine Tri.seq (Tri.reg hT ?_)
            refine (Tri.cond ⟨fun h6 => ?_, fun h6 => ?_⟩)
            · refine Tri.exit ?_
              refine Tri.seq ?_
              refine Tri.seq (Tri.reg hT ?_)
              refine Tri.ret ?_
              refine ⟨congrArg (AV.int .i64) ?_, trivial⟩; simp_all [segA] <;> rw [if_neg (by omega), if_neg (by rintro ⟨⟨q1, q2⟩, q3⟩; rw [h8 q1 q2] at q3; cases q3)]
            · refine (Tri.skip ?_)
              refine Tri.seq ?_
              refine Tri.seq (Tri.reg hT ?_)
              refine ⟨_, [], trivial, rfl, rfl, fun h => ⟨rfl, rfl, rfl⟩, ?_⟩
              refine ⟨_, [], trivial, rfl, rfl, fun h => ⟨h, rfl, rfl, rfl⟩, ?_⟩
              refine ⟨_, [], trivial, rfl, rfl, fun h => ⟨rfl, rfl, rfl⟩, ?_⟩
              refine ⟨_, [], trivial, rfl, rfl, fun h => ⟨h, rfl, rfl, rfl⟩, ?_⟩
              refine ⟨_, [], trivial, rfl, rfl, fun h => ⟨h, h, (.inl ⟨_, fun _ => rfl, f36_spec .., rfl, rfl, rfl⟩)⟩, ?_⟩
              refine ⟨⟨fun _ => trivial, fun hc => (gn hc)⟩, ?_⟩
              refine (Tri.cond ⟨fun h7 => ?_, fun h7 => ?_⟩)
              · refine Tri.exit ?_
                refine Tri.seq ?_
                refine Tri.seq (Tri.reg hT ?_)
                refine Tri.ret ?_
                refine ⟨congrArg (AV.int .i64) ?_, trivial⟩; simp_all [segA] <;> rw [if_neg (by omega), if_neg (by rintro ⟨⟨q1, q2⟩, q3⟩; rw [h8 q1 q2] at q3; cases q3)]
              · refine (Tri.skip ?_)
                refine Tri.seq ?_
                refine Tri.seq (Tri.reg hT ?_)
                refine ⟨_, [], trivial, rfl, rfl, fun h => ⟨rfl, rfl, rfl⟩, ?_⟩
                refine ⟨_, [], trivial, rfl, rfl, fun h => ⟨h, rfl, rfl, rfl⟩, ?_⟩
                refine ⟨⟨fun hc => hc, fun _ => trivial⟩, ?_⟩
                refine ⟨_, [], trivial, rfl, rfl, fun h => ⟨rfl, rfl, rfl⟩, ?_⟩
                refine ⟨_, [], trivial, rfl, rfl, fun h => ⟨rfl, rfl, rfl⟩, ?_⟩
                refine ⟨_, [], trivial, rfl, rfl, fun h => ⟨h, rfl, rfl, rfl⟩, ?_⟩
                refine ⟨_, [], trivial, rfl, rfl, fun h => ⟨h, h, (.inl ⟨_, fun _ => rfl, f37_spec _ _ _ _ _ _ _ _ _ _ ho, rfl, rfl, rfl⟩)⟩, ?_⟩
                refine ⟨⟨fun hc => hc, fun _ => trivial⟩, ?_⟩
                refine (Tri.cond ⟨fun h8 => ?_, fun h8 => ?_⟩)
                · refine Tri.exit ?_
                  refine Tri.seq ?_
                  refine Tri.seq (Tri.reg hT ?_)
                  refine Tri.ret ?_
                  refine ⟨congrArg (AV.int .i64) ?_, trivial⟩; simp_all [segA] <;> rw [if_neg (by omega), if_neg (by rintro ⟨⟨q1, q2⟩, q3⟩; rw [h8 q1 q2] at q3; cases q3)]
                · refine (Tri.skip ?_)
                  refine Tri.seq (Tri.reg hT ?_)
                  refine .inl (.inl ⟨_, fun _ => rfl, f38_spec .., ?_⟩)
                  refine (Tri.cond ⟨fun h9 => ?_, fun h9 => ?_⟩)
                  · refine Tri.exit ?_
                    refine Tri.seq ?_
                    refine Tri.seq (Tri.reg hT ?_)
                    refine Tri.ret ?_
                    refine ⟨congrArg (AV.int .i64) ?_, trivial⟩; simp_all [segA] <;> rw [if_neg (by omega), if_neg (by rintro ⟨⟨q1, q2⟩, q3⟩; rw [h8 q1 q2] at q3; cases q3)]
                  · refine (Tri.skip ?_)
                    refine Tri.exit ?_
                    refine Tri.seq (Tri.reg hT ?_)
                    refine Tri.ret ?_
                    refine ⟨congrArg (AV.int .i64) ?_, trivial⟩; simp_all [segA] <;> rw [if_neg (by omega), if_neg (by rintro ⟨⟨q1, q2⟩, q3⟩; rw [h8 q1 q2] at q3; cases q3)]

def segR (s k f : Int) (o : List optT.D) (n : Int) (op : Bool) (nx sn w : Int) (st : Bool) (stamp : Int) (stamps : Bool) : Int :=
  if (!flagsR f) = true then 3
  else if has f 2 then (if op then 7 else 0)
  else if !op then 7
  else if has f 4 then (if decide (s = nx) then 0 else 6)
  else if !has f 16 || beforeR sn k then 4
  else if stamps && st && (!(stampR o).2 || beforeR (stampR o).1 stamp) then 5
  else if !withinR s n nx w then 6
  else 0
def longR (o : List optT.D) (p : List UInt8) : Bool := decide ((o.length : Int) > 10) || decide ((p.length : Int) > 2000) || o.any (fun x => decide ((x.2.1.length : Int) > 40))
end Go.Proofs.YtchiagnggnblaaaDoor.Ac

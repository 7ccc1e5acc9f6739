import Derived.Test.YtchiagnggnblaaaDoorCnK
set_option linter.all false
/- Chapter 21: Segment, form by form (printed by genL.py). -/
namespace Go.Proofs.YtchiagnggnblaaaDoor.Ac
open Go Go.Fw Go.Ov Go.Proofs.YtchiagnggnblaaaDoor.Fx
theorem iteA (a b : Bool) : (if a = true then b else false) = (a && b) := by cases a <;> rfl
theorem iteO (a b : Bool) : (if a = true then true else b) = (a || b) := by cases a <;> rfl
def synB (f : Int) : Bool := decide (bitop .i64 .and f 2 ≠ 0)
def ackB (f : Int) : Bool := decide (bitop .i64 .and f 16 ≠ 0)
def rstZ (f : Int) : Bool := decide (bitop .i64 .and f 4 = 0)
def c1 (f st : Int) : Bool := synB f && !ackB f && decide (st ≠ 2)
def c2 (f st : Int) : Bool := synB f && ackB f && (decide (st = 1) || decide (st = 2))
def c3 (f st : Int) : Bool := !synB f && rstZ f && decide (st = 2)
def opensB (st : Int) (p g : Hf) (q k f : Int) (o : List optT.D) (x : List UInt8) : Bool := flags f && c3 f st && decide (esR p g q k f o x = 0)
def sgN1 (st : Int) (p g : Hf) (q k f : Int) (o : List optT.D) (x : List UInt8) : List Evt × Int × Hf :=
  if (!flags f) = true then ([(7, 1, 0, 3, [], ())], st, p)
  else if c1 f st = true then ([], 1, begH p q o)
  else if c3 f st = true then ([(7, 1, 0, esR p g q k f o x, [], ())], st, p)
  else ([(7, 1, 0, 7, [], ())], st, p)
def sgN2 (st : Int) (p g : Hf) (q k f : Int) (o : List optT.D) : List Evt × Int × Hf :=
  if (!flags f) = true then ([(7, 2, 0, 3, [], ())], st, g)
  else if c2 f st = true then (if k ≠ IntKind.u32.wrap (p.isn + 1) then ([(7, 2, 0, 4, [], ())], st, g) else ([], 2, begH g q o))
  else ([(7, 2, 0, 7, [], ())], st, g)
def sgH (d e st : Int) (p g : Hf) (s t : SS) (q k f : Int) (o : List optT.D) (x : List UInt8) : List Evt × Int × Hf × SS × SS :=
  if (!flags f) = true then ([(7, d, s.pos, 3, [], ())], st, p, s, t) else prM d e st p g s t q k f o x
theorem op_parts {st : Int} {p g : Hf} {q k f : Int} {o : List optT.D} {x : List UInt8} (h : opensB st p g q k f o x = true) : flags f = true ∧ c3 f st = true ∧ esR p g q k f o x = 0 := by
  unfold opensB at h
  simp only [Bool.and_eq_true, decide_eq_true_eq] at h
  exact ⟨h.1.1, h.1.2, h.2⟩
theorem f21_hf (st : Int) (p g : Hf) (s t : SS) (ho : opB st = false) : HSpec P G 21 [.loc 0 0] (cnH st p g s t) (.bool false) (cnH st p g s t) := by
  have := f21_h st p g s t
  rw [show (decide (st = 3) || decide (st = 4)) = false from ho] at this
  exact this
theorem f21_ht (st : Int) (p g : Hf) (s t : SS) (ho : opB st = true) : HSpec P G 21 [.loc 0 0] (cnH st p g s t) (.bool true) (cnH st p g s t) := by
  have := f21_h st p g s t
  rw [show (decide (st = 3) || decide (st = 4)) = true from ho] at this
  exact this

set_option maxRecDepth 16000 in
theorem f11_n1 (st : Int) (p g : Hf) (a b q k f w u : Int) (o : List optT.D) (x : List UInt8) (ho : o.length < 9223372036854775807) (hx : x.length ≤ 1000000) (hop : opB st = false) (hno : opensB st p g q k f o x = false) :
    HSpec P G 11 [.loc 0 0, .int .i64 1, tcpV a b q k f w u o x] (cnN st p g) (.list evT (sgN1 st p g q k f o x).1) (cnN (sgN1 st p g q k f o x).2.1 (sgN1 st p g q k f o x).2.2 g) := by
  generalize hz : sgN1 st p g q k f o x = z; refine fspec_intro hT (cnN st p g) (cnN z.2.1 z.2.2 g) 1 1 Tryd.func11 (by decide) rfl rfl (by kernel_rfl) rfl rfl ?_
  refine Tri.seq (Tri.reg hT ?_)
  refine Tri.seq ?_
  refine Tri.seq (Tri.reg hT ?_)
  refine ⟨_, [], trivial, rfl, rfl, fun h => ⟨rfl, rfl, rfl⟩, ?_⟩
  refine ⟨_, [], trivial, rfl, rfl, fun h => ⟨h, (.inl ⟨_, fun _ => rfl, f18_spec 1, rfl, rfl, rfl⟩)⟩, ?_⟩
  refine ⟨_, [], trivial, rfl, rfl, fun h => ⟨h, rfl, rfl, rfl⟩, ?_⟩
  refine ⟨⟨fun _ => trivial, fun hc => (gn hc)⟩, ?_⟩
  refine (Tri.cond ⟨fun h1 => ?_, fun h1 => ?_⟩)
  · exact absurd h1 (by decide)
  · refine (Tri.skip ?_)
    refine Tri.seq ?_
    refine Tri.seq (Tri.reg hT ?_)
    refine .inl (.inl ⟨_, fun _ => rfl, f19_spec f, ?_⟩)
    refine (Tri.cond ⟨fun h2 => ?_, fun h2 => ?_⟩)
    · refine Tri.seq (Tri.reg hT ?_)
      refine .inl (.inr (.inl ⟨_, _, (by exact ⟨rfl, trivial⟩), (CSpec.ofH (u := [(0, cnC st p g .nilp .nilp, none)]) (f20_n1 st p g 3)), (by rfl), ?_⟩))
      refine Tri.ret ?_
      have e := (if_pos h2).symm.trans hz; exact ⟨congrArg (fun z : List Evt × Int × Hf => AV.list evT z.1) e, congrArg (fun z : List Evt × Int × Hf => some (Chunk.box (cnC z.2.1 z.2.2 g .nilp .nilp))) e, trivial⟩
    · refine (Tri.skip ?_)
      refine Tri.seq ?_
      refine Tri.seq (Tri.reg hT ?_)
      refine .inl (.inr (.inl ⟨_, _, (by exact ⟨rfl, trivial⟩), (CSpec.ofH (u := [(0, cnC st p g .nilp .nilp, none)]) (f21_nf st p g hop)), (by rfl), ?_⟩))
      refine (Tri.cond ⟨fun h3 => ?_, fun h3 => ?_⟩)
      · cases h3
      · refine (Tri.skip ?_)
        refine Tri.seq (Tri.drw hT hm 9 (by kernel_rfl) ?_)
        refine ⟨by kernel_rfl, ?_⟩
        refine Tri.seq (Tri.block ?_)
        refine Tri.seq (Tri.reg hT ?_)
        refine ⟨_, [], trivial, rfl, rfl, fun h => ⟨rfl, rfl, rfl⟩, ?_⟩
        refine ⟨_, [], trivial, rfl, rfl, fun h => ⟨h, rfl, rfl, rfl⟩, ?_⟩
        refine ⟨⟨fun hc => hc, fun _ => trivial⟩, ?_⟩
        refine ⟨_, [], trivial, rfl, rfl, fun h => ⟨rfl, rfl, rfl⟩, ?_⟩
        refine ⟨_, [], trivial, rfl, rfl, fun h => ⟨h, rfl, rfl, rfl⟩, ?_⟩
        refine ⟨⟨fun hc => hc, fun _ => trivial⟩, ?_⟩
        refine ⟨_, [], trivial, rfl, rfl, fun h => ⟨rfl, rfl, rfl⟩, ?_⟩
        refine ⟨_, [], trivial, rfl, rfl, fun h => ⟨h, rfl, rfl, rfl⟩, ?_⟩
        refine ⟨_, [], trivial, rfl, rfl, fun h => ⟨h, rfl, rfl, rfl⟩, ?_⟩
        refine ⟨_, [], trivial, rfl, rfl, fun h => ⟨h, rfl, rfl, rfl⟩, ?_⟩
        refine ⟨_, [], trivial, rfl, rfl, fun h => ⟨h, rfl, rfl, rfl⟩, ?_⟩
        refine ⟨⟨fun hc => hc, fun _ => trivial⟩, ?_⟩
        refine (Tri.cond ⟨fun h4 => ?_, fun h4 => ?_⟩)
        · refine Tri.seq (Tri.reg hT ?_)
          refine .inl (.inr (.inl ⟨_, _, (by exact ⟨rfl, trivial⟩), (CSpec.ofH (u := [(0, cnC st p g .nilp .nilp, some (cnC st (begH p q o) g .nilp .nilp))]) (f23_n1 st p g a b q f w u k o x ho)), (by rfl), ?_⟩))
          refine Tri.seq (Tri.reg hT ?_)
          refine ⟨(by first | ((try simp only [decide_eq_true_eq, decide_eq_false_iff_not, toNat_cast] at *); omega) | decide), ?_⟩
          refine Tri.seq (Tri.reg hT ?_)
          refine Tri.seq (Tri.reg hT ?_)
          refine Tri.le _ (Le.own 6 evT rfl) ?_; refine Tri.le _ (Le.freeze 6 _ 0 rfl rfl (Nat.le_refl 0)) ?_
          refine Tri.ret ?_
          have h4' : c1 f st = true := (by simp only [iteA] at h4; simpa [c1, synB, ackB] using h4); have e := ((if_neg (by rw [h2]; decide)).trans (if_pos h4')).symm.trans hz; exact ⟨congrArg (fun z : List Evt × Int × Hf => AV.list evT z.1) e, congrArg (fun z : List Evt × Int × Hf => some (Chunk.box (cnC z.2.1 z.2.2 g .nilp .nilp))) e, trivial⟩
        · refine Tri.seq (Tri.reg hT ?_)
          refine ⟨_, [], trivial, rfl, rfl, fun h => ⟨rfl, rfl, rfl⟩, ?_⟩
          refine ⟨⟨fun hc => hc, fun _ => trivial⟩, ?_⟩
          refine ⟨_, [], trivial, rfl, rfl, fun h => ⟨rfl, rfl, rfl⟩, ?_⟩
          refine ⟨_, [], trivial, rfl, rfl, fun h => ⟨h, rfl, rfl, rfl⟩, ?_⟩
          refine ⟨⟨fun hc => hc, fun _ => trivial⟩, ?_⟩
          refine ⟨_, [], trivial, rfl, rfl, fun h => ⟨rfl, rfl, rfl⟩, ?_⟩
          refine ⟨_, [], trivial, rfl, rfl, fun h => ⟨h, rfl, rfl, rfl⟩, ?_⟩
          refine ⟨_, [], trivial, rfl, rfl, fun h => ⟨h, rfl, rfl, rfl⟩, ?_⟩
          refine ⟨_, [], trivial, rfl, rfl, fun h => ⟨h, rfl, rfl, rfl⟩, ?_⟩
          refine ⟨_, [], trivial, rfl, rfl, fun h => ⟨h, rfl, rfl, rfl⟩, ?_⟩
          refine ⟨_, [], trivial, rfl, rfl, fun h => ⟨h, rfl, rfl, rfl⟩, ?_⟩
          refine ⟨_, [], trivial, rfl, rfl, fun h => ⟨rfl, rfl, rfl⟩, ?_⟩
          refine ⟨_, [], trivial, rfl, rfl, fun h => ⟨h, rfl, rfl, rfl⟩, ?_⟩
          refine ⟨_, [], trivial, rfl, rfl, fun h => ⟨h, rfl, rfl, rfl⟩, ?_⟩
          refine ⟨_, [], trivial, rfl, rfl, fun h => ⟨h, rfl, rfl, rfl⟩, ?_⟩
          refine ⟨_, [], trivial, rfl, rfl, fun h => ⟨h, rfl, rfl, rfl⟩, ?_⟩
          refine ⟨_, [], trivial, rfl, rfl, fun h => ⟨h, ⟨fun _ => trivial, fun hc => ga h (gn hc)⟩, rfl, rfl, rfl⟩, ?_⟩
          refine ⟨⟨fun hc => hc, fun _ => trivial⟩, ?_⟩
          refine (Tri.cond ⟨fun h5 => ?_, fun h5 => ?_⟩)
          · exact absurd h5 (by simp [iteA])
          · refine Tri.seq (Tri.reg hT ?_)
            refine ⟨_, [], trivial, rfl, rfl, fun h => ⟨rfl, rfl, rfl⟩, ?_⟩
            refine ⟨_, [], trivial, rfl, rfl, fun h => ⟨h, rfl, rfl, rfl⟩, ?_⟩
            refine ⟨_, [], trivial, rfl, rfl, fun h => ⟨h, rfl, rfl, rfl⟩, ?_⟩
            refine ⟨_, [], trivial, rfl, rfl, fun h => ⟨h, rfl, rfl, rfl⟩, ?_⟩
            refine ⟨⟨fun hc => hc, fun _ => trivial⟩, ?_⟩
            refine ⟨_, [], trivial, rfl, rfl, fun h => ⟨rfl, rfl, rfl⟩, ?_⟩
            refine ⟨_, [], trivial, rfl, rfl, fun h => ⟨h, rfl, rfl, rfl⟩, ?_⟩
            refine ⟨⟨fun hc => hc, fun _ => trivial⟩, ?_⟩
            refine ⟨_, [], trivial, rfl, rfl, fun h => ⟨rfl, rfl, rfl⟩, ?_⟩
            refine ⟨_, [], trivial, rfl, rfl, fun h => ⟨h, rfl, rfl, rfl⟩, ?_⟩
            refine ⟨_, [], trivial, rfl, rfl, fun h => ⟨h, rfl, rfl, rfl⟩, ?_⟩
            refine ⟨_, [], trivial, rfl, rfl, fun h => ⟨h, rfl, rfl, rfl⟩, ?_⟩
            refine ⟨_, [], trivial, rfl, rfl, fun h => ⟨h, rfl, rfl, rfl⟩, ?_⟩
            refine ⟨⟨fun hc => hc, fun _ => trivial⟩, ?_⟩
            refine (Tri.cond ⟨fun h6 => ?_, fun h6 => ?_⟩)
            · have h4' : c1 f st = false := (by simp only [iteA] at h4; simpa [c1, synB, ackB] using h4); have h6' : c3 f st = true := (by simp only [iteA] at h6; simpa [c3, synB, rstZ] using h6); have hne : esR p g q k f o x ≠ 0 := (fun e0 => by unfold opensB at hno; rw [h6', show flags f = true by simpa using h2, decide_eq_true e0] at hno; cases hno)
              refine Tri.seq (Tri.reg hT ?_)
              refine .inl (.inr (.inl ⟨_, _, (by exact ⟨rfl, trivial⟩), (CSpec.ofH (u := [(0, cnC st p g .nilp .nilp, none)]) (f24_r st p g a b q k f w u o x ho hx hne)), (by rfl), ?_⟩))
              refine Tri.ret ?_
              have e := ((if_neg (by rw [h2]; decide)).trans ((if_neg (by rw [h4']; decide)).trans (if_pos h6'))).symm.trans hz; exact ⟨congrArg (fun z : List Evt × Int × Hf => AV.list evT z.1) e, congrArg (fun z : List Evt × Int × Hf => some (Chunk.box (cnC z.2.1 z.2.2 g .nilp .nilp))) e, trivial⟩
            · refine (Tri.skip ?_)
              refine Tri.seq (Tri.reg hT ?_)
              refine .inl (.inr (.inl ⟨_, _, (by exact ⟨rfl, trivial⟩), (CSpec.ofH (u := [(0, cnC st p g .nilp .nilp, none)]) (f20_n1 st p g 7)), (by rfl), ?_⟩))
              refine Tri.ret ?_
              have h4' : c1 f st = false := (by simp only [iteA] at h4; simpa [c1, synB, ackB] using h4); have h6' : c3 f st = false := (by simp only [iteA] at h6; simpa [c3, synB, rstZ] using h6); have e := ((if_neg (by rw [h2]; decide)).trans ((if_neg (by rw [h4']; decide)).trans (if_neg (by rw [h6']; decide)))).symm.trans hz; exact ⟨congrArg (fun z : List Evt × Int × Hf => AV.list evT z.1) e, congrArg (fun z : List Evt × Int × Hf => some (Chunk.box (cnC z.2.1 z.2.2 g .nilp .nilp))) e, trivial⟩
set_option maxRecDepth 16000 in
theorem f11_n2 (st : Int) (p g : Hf) (a b q k f w u : Int) (o : List optT.D) (x : List UInt8) (ho : o.length < 9223372036854775807) (hx : x.length ≤ 1000000) (hop : opB st = false) :
    HSpec P G 11 [.loc 0 0, .int .i64 2, tcpV a b q k f w u o x] (cnN st p g) (.list evT (sgN2 st p g q k f o).1) (cnN (sgN2 st p g q k f o).2.1 p (sgN2 st p g q k f o).2.2) := by
  generalize hz : sgN2 st p g q k f o = z; refine fspec_intro hT (cnN st p g) (cnN z.2.1 p z.2.2) 1 1 Tryd.func11 (by decide) rfl rfl (by kernel_rfl) rfl rfl ?_
  refine Tri.seq (Tri.reg hT ?_)
  refine Tri.seq ?_
  refine Tri.seq (Tri.reg hT ?_)
  refine ⟨_, [], trivial, rfl, rfl, fun h => ⟨rfl, rfl, rfl⟩, ?_⟩
  refine ⟨_, [], trivial, rfl, rfl, fun h => ⟨h, (.inl ⟨_, fun _ => rfl, f18_spec 2, rfl, rfl, rfl⟩)⟩, ?_⟩
  refine ⟨_, [], trivial, rfl, rfl, fun h => ⟨h, rfl, rfl, rfl⟩, ?_⟩
  refine ⟨⟨fun _ => trivial, fun hc => (gn hc)⟩, ?_⟩
  refine (Tri.cond ⟨fun h1 => ?_, fun h1 => ?_⟩)
  · exact absurd h1 (by decide)
  · refine (Tri.skip ?_)
    refine Tri.seq ?_
    refine Tri.seq (Tri.reg hT ?_)
    refine .inl (.inl ⟨_, fun _ => rfl, f19_spec f, ?_⟩)
    refine (Tri.cond ⟨fun h2 => ?_, fun h2 => ?_⟩)
    · refine Tri.seq (Tri.reg hT ?_)
      refine .inl (.inr (.inl ⟨_, _, (by exact ⟨rfl, trivial⟩), (CSpec.ofH (u := [(0, cnC st p g .nilp .nilp, none)]) (f20_n2 st p g 3)), (by rfl), ?_⟩))
      refine Tri.ret ?_
      have e := (if_pos h2).symm.trans hz; exact ⟨congrArg (fun z : List Evt × Int × Hf => AV.list evT z.1) e, congrArg (fun z : List Evt × Int × Hf => some (Chunk.box (cnC z.2.1 p z.2.2 .nilp .nilp))) e, trivial⟩
    · refine (Tri.skip ?_)
      refine Tri.seq ?_
      refine Tri.seq (Tri.reg hT ?_)
      refine .inl (.inr (.inl ⟨_, _, (by exact ⟨rfl, trivial⟩), (CSpec.ofH (u := [(0, cnC st p g .nilp .nilp, none)]) (f21_nf st p g hop)), (by rfl), ?_⟩))
      refine (Tri.cond ⟨fun h3 => ?_, fun h3 => ?_⟩)
      · cases h3
      · refine (Tri.skip ?_)
        refine Tri.seq (Tri.drw hT hm 9 (by kernel_rfl) ?_)
        refine ⟨by kernel_rfl, ?_⟩
        refine Tri.seq (Tri.block ?_)
        refine Tri.seq (Tri.reg hT ?_)
        refine ⟨_, [], trivial, rfl, rfl, fun h => ⟨rfl, rfl, rfl⟩, ?_⟩
        refine ⟨_, [], trivial, rfl, rfl, fun h => ⟨h, rfl, rfl, rfl⟩, ?_⟩
        refine ⟨⟨fun hc => hc, fun _ => trivial⟩, ?_⟩
        refine ⟨_, [], trivial, rfl, rfl, fun h => ⟨rfl, rfl, rfl⟩, ?_⟩
        refine ⟨_, [], trivial, rfl, rfl, fun h => ⟨h, rfl, rfl, rfl⟩, ?_⟩
        refine ⟨⟨fun hc => hc, fun _ => trivial⟩, ?_⟩
        refine ⟨_, [], trivial, rfl, rfl, fun h => ⟨rfl, rfl, rfl⟩, ?_⟩
        refine ⟨_, [], trivial, rfl, rfl, fun h => ⟨h, rfl, rfl, rfl⟩, ?_⟩
        refine ⟨_, [], trivial, rfl, rfl, fun h => ⟨h, rfl, rfl, rfl⟩, ?_⟩
        refine ⟨_, [], trivial, rfl, rfl, fun h => ⟨h, rfl, rfl, rfl⟩, ?_⟩
        refine ⟨_, [], trivial, rfl, rfl, fun h => ⟨h, rfl, rfl, rfl⟩, ?_⟩
        refine ⟨⟨fun hc => hc, fun _ => trivial⟩, ?_⟩
        refine (Tri.cond ⟨fun h4 => ?_, fun h4 => ?_⟩)
        · exact absurd h4 (by simp [iteA])
        · refine Tri.seq (Tri.reg hT ?_)
          refine ⟨_, [], trivial, rfl, rfl, fun h => ⟨rfl, rfl, rfl⟩, ?_⟩
          refine ⟨⟨fun hc => hc, fun _ => trivial⟩, ?_⟩
          refine ⟨_, [], trivial, rfl, rfl, fun h => ⟨rfl, rfl, rfl⟩, ?_⟩
          refine ⟨_, [], trivial, rfl, rfl, fun h => ⟨h, rfl, rfl, rfl⟩, ?_⟩
          refine ⟨⟨fun hc => hc, fun _ => trivial⟩, ?_⟩
          refine ⟨_, [], trivial, rfl, rfl, fun h => ⟨rfl, rfl, rfl⟩, ?_⟩
          refine ⟨_, [], trivial, rfl, rfl, fun h => ⟨h, rfl, rfl, rfl⟩, ?_⟩
          refine ⟨_, [], trivial, rfl, rfl, fun h => ⟨h, rfl, rfl, rfl⟩, ?_⟩
          refine ⟨_, [], trivial, rfl, rfl, fun h => ⟨h, rfl, rfl, rfl⟩, ?_⟩
          refine ⟨_, [], trivial, rfl, rfl, fun h => ⟨h, rfl, rfl, rfl⟩, ?_⟩
          refine ⟨_, [], trivial, rfl, rfl, fun h => ⟨h, rfl, rfl, rfl⟩, ?_⟩
          refine ⟨_, [], trivial, rfl, rfl, fun h => ⟨rfl, rfl, rfl⟩, ?_⟩
          refine ⟨_, [], trivial, rfl, rfl, fun h => ⟨h, rfl, rfl, rfl⟩, ?_⟩
          refine ⟨_, [], trivial, rfl, rfl, fun h => ⟨h, rfl, rfl, rfl⟩, ?_⟩
          refine ⟨_, [], trivial, rfl, rfl, fun h => ⟨h, rfl, rfl, rfl⟩, ?_⟩
          refine ⟨_, [], trivial, rfl, rfl, fun h => ⟨h, rfl, rfl, rfl⟩, ?_⟩
          refine ⟨_, [], trivial, rfl, rfl, fun h => ⟨h, ⟨fun _ => trivial, fun hc => ga h (gn hc)⟩, rfl, rfl, rfl⟩, ?_⟩
          refine ⟨⟨fun hc => hc, fun _ => trivial⟩, ?_⟩
          refine (Tri.cond ⟨fun h5 => ?_, fun h5 => ?_⟩)
          · refine Tri.seq ?_
            refine Tri.seq (Tri.drw hT hm 10 (by kernel_rfl) ?_)
            refine ⟨(by first | ((try simp only [decide_eq_true_eq, decide_eq_false_iff_not, toNat_cast] at *); omega) | decide), ?_⟩
            refine ⟨by kernel_rfl, ?_⟩
            refine (Tri.cond ⟨fun h6 => ?_, fun h6 => ?_⟩)
            · refine Tri.seq (Tri.reg hT ?_)
              refine .inl (.inr (.inl ⟨_, _, (by exact ⟨rfl, trivial⟩), (CSpec.ofH (u := [(0, cnC st p g .nilp .nilp, none)]) (f20_n2 st p g 4)), (by rfl), ?_⟩))
              refine Tri.ret ?_
              have h5' : c2 f st = true := (by simp only [iteA, iteO] at h5; simpa [c2, synB, ackB] using h5); have e := ((if_neg (by rw [h2]; decide)).trans ((if_pos h5').trans (if_pos (of_decide_eq_true h6)))).symm.trans hz; exact ⟨congrArg (fun z : List Evt × Int × Hf => AV.list evT z.1) e, congrArg (fun z : List Evt × Int × Hf => some (Chunk.box (cnC z.2.1 p z.2.2 .nilp .nilp))) e, trivial⟩
            · refine (Tri.skip ?_)
              refine Tri.seq (Tri.reg hT ?_)
              refine .inl (.inr (.inl ⟨_, _, (by exact ⟨rfl, trivial⟩), (CSpec.ofH (u := [(0, cnC st p g .nilp .nilp, some (cnC st p (begH g q o) .nilp .nilp))]) (f23_n2 st p g a b q f w u k o x ho)), (by rfl), ?_⟩))
              refine Tri.seq (Tri.reg hT ?_)
              refine Tri.seq (Tri.reg hT ?_)
              refine Tri.le _ (Le.own 6 evT rfl) ?_; refine Tri.le _ (Le.freeze 6 _ 0 rfl rfl (Nat.le_refl 0)) ?_
              refine Tri.ret ?_
              have h5' : c2 f st = true := (by simp only [iteA, iteO] at h5; simpa [c2, synB, ackB] using h5); have e := ((if_neg (by rw [h2]; decide)).trans ((if_pos h5').trans (if_neg (of_decide_eq_false h6)))).symm.trans hz; exact ⟨congrArg (fun z : List Evt × Int × Hf => AV.list evT z.1) e, congrArg (fun z : List Evt × Int × Hf => some (Chunk.box (cnC z.2.1 p z.2.2 .nilp .nilp))) e, trivial⟩
          · refine Tri.seq (Tri.reg hT ?_)
            refine ⟨_, [], trivial, rfl, rfl, fun h => ⟨rfl, rfl, rfl⟩, ?_⟩
            refine ⟨_, [], trivial, rfl, rfl, fun h => ⟨h, rfl, rfl, rfl⟩, ?_⟩
            refine ⟨_, [], trivial, rfl, rfl, fun h => ⟨h, rfl, rfl, rfl⟩, ?_⟩
            refine ⟨_, [], trivial, rfl, rfl, fun h => ⟨h, rfl, rfl, rfl⟩, ?_⟩
            refine ⟨⟨fun hc => hc, fun _ => trivial⟩, ?_⟩
            refine ⟨_, [], trivial, rfl, rfl, fun h => ⟨rfl, rfl, rfl⟩, ?_⟩
            refine ⟨_, [], trivial, rfl, rfl, fun h => ⟨h, rfl, rfl, rfl⟩, ?_⟩
            refine ⟨⟨fun hc => hc, fun _ => trivial⟩, ?_⟩
            refine ⟨_, [], trivial, rfl, rfl, fun h => ⟨rfl, rfl, rfl⟩, ?_⟩
            refine ⟨_, [], trivial, rfl, rfl, fun h => ⟨h, rfl, rfl, rfl⟩, ?_⟩
            refine ⟨_, [], trivial, rfl, rfl, fun h => ⟨h, rfl, rfl, rfl⟩, ?_⟩
            refine ⟨_, [], trivial, rfl, rfl, fun h => ⟨h, rfl, rfl, rfl⟩, ?_⟩
            refine ⟨_, [], trivial, rfl, rfl, fun h => ⟨h, rfl, rfl, rfl⟩, ?_⟩
            refine ⟨⟨fun hc => hc, fun _ => trivial⟩, ?_⟩
            refine (Tri.cond ⟨fun h7 => ?_, fun h7 => ?_⟩)
            · exact absurd h7 (by simp [iteA])
            · refine (Tri.skip ?_)
              refine Tri.seq (Tri.reg hT ?_)
              refine .inl (.inr (.inl ⟨_, _, (by exact ⟨rfl, trivial⟩), (CSpec.ofH (u := [(0, cnC st p g .nilp .nilp, none)]) (f20_n2 st p g 7)), (by rfl), ?_⟩))
              refine Tri.ret ?_
              have h5' : c2 f st = false := (by simp only [iteA, iteO] at h5; simpa [c2, synB, ackB] using h5); have e := ((if_neg (by rw [h2]; decide)).trans (if_neg (by rw [h5']; decide))).symm.trans hz; exact ⟨congrArg (fun z : List Evt × Int × Hf => AV.list evT z.1) e, congrArg (fun z : List Evt × Int × Hf => some (Chunk.box (cnC z.2.1 p z.2.2 .nilp .nilp))) e, trivial⟩
set_option maxRecDepth 16000 in
theorem f11_a (st : Int) (p g : Hf) (a b q k f w u : Int) (o : List optT.D) (x : List UInt8) (ho : o.length < 9223372036854775807) (hx : x.length ≤ 1000000) (hop : opB st = false) (hyes : opensB st p g q k f o x = true) :
    HSpec P G 11 [.loc 0 0, .int .i64 1, tcpV a b q k f w u o x] (cnN st p g) (.list evT ((1, 1, 0, 0, [], ()) :: tkE 1 2 (nwS p) (nwS g) q k f x)) (esZ 300 301 st p g q k f o x) := by
  refine fspec_intro hT (cnN st p g) (esZ 300 301 st p g q k f o x) 1 1 Tryd.func11 (by decide) rfl rfl (by kernel_rfl) rfl rfl ?_
  refine Tri.seq (Tri.reg hT ?_)
  refine Tri.seq ?_
  refine Tri.seq (Tri.reg hT ?_)
  refine ⟨_, [], trivial, rfl, rfl, fun h => ⟨rfl, rfl, rfl⟩, ?_⟩
  refine ⟨_, [], trivial, rfl, rfl, fun h => ⟨h, (.inl ⟨_, fun _ => rfl, f18_spec 1, rfl, rfl, rfl⟩)⟩, ?_⟩
  refine ⟨_, [], trivial, rfl, rfl, fun h => ⟨h, rfl, rfl, rfl⟩, ?_⟩
  refine ⟨⟨fun _ => trivial, fun hc => (gn hc)⟩, ?_⟩
  refine (Tri.cond ⟨fun h1 => ?_, fun h1 => ?_⟩)
  · exact absurd h1 (by decide)
  · refine (Tri.skip ?_)
    refine Tri.seq ?_
    refine Tri.seq (Tri.reg hT ?_)
    refine .inl (.inl ⟨_, fun _ => rfl, f19_spec f, ?_⟩)
    refine (Tri.cond ⟨fun h2 => ?_, fun h2 => ?_⟩)
    · exact absurd h2 (by rw [(op_parts hyes).1]; decide)
    · refine (Tri.skip ?_)
      refine Tri.seq ?_
      refine Tri.seq (Tri.reg hT ?_)
      refine .inl (.inr (.inl ⟨_, _, (by exact ⟨rfl, trivial⟩), (CSpec.ofH (u := [(0, cnC st p g .nilp .nilp, none)]) (f21_nf st p g hop)), (by rfl), ?_⟩))
      refine (Tri.cond ⟨fun h3 => ?_, fun h3 => ?_⟩)
      · cases h3
      · refine (Tri.skip ?_)
        refine Tri.seq (Tri.drw hT hm 9 (by kernel_rfl) ?_)
        refine ⟨by kernel_rfl, ?_⟩
        refine Tri.seq (Tri.block ?_)
        refine Tri.seq (Tri.reg hT ?_)
        refine ⟨_, [], trivial, rfl, rfl, fun h => ⟨rfl, rfl, rfl⟩, ?_⟩
        refine ⟨_, [], trivial, rfl, rfl, fun h => ⟨h, rfl, rfl, rfl⟩, ?_⟩
        refine ⟨⟨fun hc => hc, fun _ => trivial⟩, ?_⟩
        refine ⟨_, [], trivial, rfl, rfl, fun h => ⟨rfl, rfl, rfl⟩, ?_⟩
        refine ⟨_, [], trivial, rfl, rfl, fun h => ⟨h, rfl, rfl, rfl⟩, ?_⟩
        refine ⟨⟨fun hc => hc, fun _ => trivial⟩, ?_⟩
        refine ⟨_, [], trivial, rfl, rfl, fun h => ⟨rfl, rfl, rfl⟩, ?_⟩
        refine ⟨_, [], trivial, rfl, rfl, fun h => ⟨h, rfl, rfl, rfl⟩, ?_⟩
        refine ⟨_, [], trivial, rfl, rfl, fun h => ⟨h, rfl, rfl, rfl⟩, ?_⟩
        refine ⟨_, [], trivial, rfl, rfl, fun h => ⟨h, rfl, rfl, rfl⟩, ?_⟩
        refine ⟨_, [], trivial, rfl, rfl, fun h => ⟨h, rfl, rfl, rfl⟩, ?_⟩
        refine ⟨⟨fun hc => hc, fun _ => trivial⟩, ?_⟩
        refine (Tri.cond ⟨fun h4 => ?_, fun h4 => ?_⟩)
        · exact absurd h4 (by have := (op_parts hyes).2.1; simp only [iteA]; unfold c3 synB at this; simp_all)
        · refine Tri.seq (Tri.reg hT ?_)
          refine ⟨_, [], trivial, rfl, rfl, fun h => ⟨rfl, rfl, rfl⟩, ?_⟩
          refine ⟨⟨fun hc => hc, fun _ => trivial⟩, ?_⟩
          refine ⟨_, [], trivial, rfl, rfl, fun h => ⟨rfl, rfl, rfl⟩, ?_⟩
          refine ⟨_, [], trivial, rfl, rfl, fun h => ⟨h, rfl, rfl, rfl⟩, ?_⟩
          refine ⟨⟨fun hc => hc, fun _ => trivial⟩, ?_⟩
          refine ⟨_, [], trivial, rfl, rfl, fun h => ⟨rfl, rfl, rfl⟩, ?_⟩
          refine ⟨_, [], trivial, rfl, rfl, fun h => ⟨h, rfl, rfl, rfl⟩, ?_⟩
          refine ⟨_, [], trivial, rfl, rfl, fun h => ⟨h, rfl, rfl, rfl⟩, ?_⟩
          refine ⟨_, [], trivial, rfl, rfl, fun h => ⟨h, rfl, rfl, rfl⟩, ?_⟩
          refine ⟨_, [], trivial, rfl, rfl, fun h => ⟨h, rfl, rfl, rfl⟩, ?_⟩
          refine ⟨_, [], trivial, rfl, rfl, fun h => ⟨h, rfl, rfl, rfl⟩, ?_⟩
          refine ⟨_, [], trivial, rfl, rfl, fun h => ⟨rfl, rfl, rfl⟩, ?_⟩
          refine ⟨_, [], trivial, rfl, rfl, fun h => ⟨h, rfl, rfl, rfl⟩, ?_⟩
          refine ⟨_, [], trivial, rfl, rfl, fun h => ⟨h, rfl, rfl, rfl⟩, ?_⟩
          refine ⟨_, [], trivial, rfl, rfl, fun h => ⟨h, rfl, rfl, rfl⟩, ?_⟩
          refine ⟨_, [], trivial, rfl, rfl, fun h => ⟨h, rfl, rfl, rfl⟩, ?_⟩
          refine ⟨_, [], trivial, rfl, rfl, fun h => ⟨h, ⟨fun _ => trivial, fun hc => ga h (gn hc)⟩, rfl, rfl, rfl⟩, ?_⟩
          refine ⟨⟨fun hc => hc, fun _ => trivial⟩, ?_⟩
          refine (Tri.cond ⟨fun h5 => ?_, fun h5 => ?_⟩)
          · exact absurd h5 (by simp [iteA])
          · refine Tri.seq (Tri.reg hT ?_)
            refine ⟨_, [], trivial, rfl, rfl, fun h => ⟨rfl, rfl, rfl⟩, ?_⟩
            refine ⟨_, [], trivial, rfl, rfl, fun h => ⟨h, rfl, rfl, rfl⟩, ?_⟩
            refine ⟨_, [], trivial, rfl, rfl, fun h => ⟨h, rfl, rfl, rfl⟩, ?_⟩
            refine ⟨_, [], trivial, rfl, rfl, fun h => ⟨h, rfl, rfl, rfl⟩, ?_⟩
            refine ⟨⟨fun hc => hc, fun _ => trivial⟩, ?_⟩
            refine ⟨_, [], trivial, rfl, rfl, fun h => ⟨rfl, rfl, rfl⟩, ?_⟩
            refine ⟨_, [], trivial, rfl, rfl, fun h => ⟨h, rfl, rfl, rfl⟩, ?_⟩
            refine ⟨⟨fun hc => hc, fun _ => trivial⟩, ?_⟩
            refine ⟨_, [], trivial, rfl, rfl, fun h => ⟨rfl, rfl, rfl⟩, ?_⟩
            refine ⟨_, [], trivial, rfl, rfl, fun h => ⟨h, rfl, rfl, rfl⟩, ?_⟩
            refine ⟨_, [], trivial, rfl, rfl, fun h => ⟨h, rfl, rfl, rfl⟩, ?_⟩
            refine ⟨_, [], trivial, rfl, rfl, fun h => ⟨h, rfl, rfl, rfl⟩, ?_⟩
            refine ⟨_, [], trivial, rfl, rfl, fun h => ⟨h, rfl, rfl, rfl⟩, ?_⟩
            refine ⟨⟨fun hc => hc, fun _ => trivial⟩, ?_⟩
            refine (Tri.cond ⟨fun h6 => ?_, fun h6 => ?_⟩)
            · refine Tri.seq (Tri.regM hT [2] ?_)
              refine ⟨_, Le.refl _, .inl (.inr (OpTri.hcall 400 rfl rfl rfl (HSpec.at2 (f24_a st p g a b q k f w u o x ho hx (op_parts hyes).2.2) 45 85 300 301 rfl rfl rfl rfl) trivial ⟨rfl, trivial⟩ rfl ?_))⟩
              refine Tri.ret ?_
              exact ⟨rfl, rfl, rfl, rfl, trivial⟩
            · exact absurd h6 (by have := (op_parts hyes).2.1; simp only [iteA]; unfold c3 synB rstZ at this; simp_all)
set_option maxRecDepth 16000 in
theorem f11_o1 (st : Int) (p g : Hf) (s t : SS) (B : Int) (is : SInv s B) (it : SInv t B) (hB : B ≤ 1099511600000) (a b q k f w u : Int) (o : List optT.D) (x : List UInt8) (ho : o.length < 9223372036854775807) (hx : x.length ≤ 1000000) (hop : opB st = true) :
    HSpec P G 11 [.loc 0 0, .int .i64 1, tcpV a b q k f w u o x] (cnH st p g s t) (.list evT (sgH 1 2 st p g s t q k f o x).1) [(0, .box (cnC (sgH 1 2 st p g s t q k f o x).2.1 (sgH 1 2 st p g s t q k f o x).2.2.1 g (.loc 1 0) (.loc 2 0))), (1, .box (bxS (sgH 1 2 st p g s t q k f o x).2.2.2.1)), (2, .box (bxS (sgH 1 2 st p g s t q k f o x).2.2.2.2))] := by
  generalize hz : sgH 1 2 st p g s t q k f o x = z; refine fspec_intro hT (cnH st p g s t) [(0, .box (cnC z.2.1 z.2.2.1 g (.loc 1 0) (.loc 2 0))), (1, .box (bxS z.2.2.2.1)), (2, .box (bxS z.2.2.2.2))] 3 3 Tryd.func11 (by decide) rfl rfl (by kernel_rfl) rfl rfl ?_
  refine Tri.seq (Tri.reg hT ?_)
  refine Tri.seq ?_
  refine Tri.seq (Tri.reg hT ?_)
  refine ⟨_, [], trivial, rfl, rfl, fun h => ⟨rfl, rfl, rfl⟩, ?_⟩
  refine ⟨_, [], trivial, rfl, rfl, fun h => ⟨h, (.inl ⟨_, fun _ => rfl, f18_spec 1, rfl, rfl, rfl⟩)⟩, ?_⟩
  refine ⟨_, [], trivial, rfl, rfl, fun h => ⟨h, rfl, rfl, rfl⟩, ?_⟩
  refine ⟨⟨fun _ => trivial, fun hc => (gn hc)⟩, ?_⟩
  refine (Tri.cond ⟨fun h1 => ?_, fun h1 => ?_⟩)
  · exact absurd h1 (by decide)
  · refine (Tri.skip ?_)
    refine Tri.seq ?_
    refine Tri.seq (Tri.reg hT ?_)
    refine .inl (.inl ⟨_, fun _ => rfl, f19_spec f, ?_⟩)
    refine (Tri.cond ⟨fun h2 => ?_, fun h2 => ?_⟩)
    · refine Tri.seq (Tri.reg hT ?_)
      refine .inl (.inr (.inl ⟨_, _, (by exact ⟨rfl, rfl, rfl, trivial⟩), (CSpec.ofH (u := [(0, cnC st p g (.loc 1 0) (.loc 2 0), none), (1, bxS s, none), (2, bxS t, none)]) (f20_h1 st p g s t 3)), (by rfl), ?_⟩))
      refine Tri.ret ?_
      have e := (if_pos h2).symm.trans hz; exact ⟨congrArg (fun z : List Evt × Int × Hf × SS × SS => AV.list evT z.1) e, congrArg (fun z : List Evt × Int × Hf × SS × SS => some (Chunk.box (cnC z.2.1 z.2.2.1 g (.loc 1 0) (.loc 2 0)))) e, congrArg (fun z : List Evt × Int × Hf × SS × SS => some (Chunk.box (bxS z.2.2.2.1))) e, congrArg (fun z : List Evt × Int × Hf × SS × SS => some (Chunk.box (bxS z.2.2.2.2))) e, trivial⟩
    · refine (Tri.skip ?_)
      refine Tri.seq ?_
      refine Tri.seq (Tri.reg hT ?_)
      refine .inl (.inr (.inl ⟨_, _, (by exact ⟨rfl, rfl, rfl, trivial⟩), (CSpec.ofH (u := [(0, cnC st p g (.loc 1 0) (.loc 2 0), none), (1, bxS s, none), (2, bxS t, none)]) (f21_ht st p g s t hop)), (by rfl), ?_⟩))
      refine (Tri.cond ⟨fun h3 => ?_, fun h3 => ?_⟩)
      · refine Tri.seq (Tri.reg hT ?_)
        refine .inl (.inr (.inl ⟨_, _, (by exact ⟨rfl, rfl, rfl, trivial⟩), (CSpec.ofH (u := [(0, cnC st p g (.loc 1 0) (.loc 2 0), some (cnC (prM 1 2 st p g s t q k f o x).2.1 (prM 1 2 st p g s t q k f o x).2.2.1 g (.loc 1 0) (.loc 2 0))), (1, bxS s, some (bxS (prM 1 2 st p g s t q k f o x).2.2.2.1)), (2, bxS t, some (bxS (prM 1 2 st p g s t q k f o x).2.2.2.2))]) (f22_h1 st p g s t B is it hB a b q k f w u o x ho hx)), (by rfl), ?_⟩))
        refine Tri.ret ?_
        have e := ((if_neg (by rw [h2]; decide))).symm.trans hz; exact ⟨congrArg (fun z : List Evt × Int × Hf × SS × SS => AV.list evT z.1) e, congrArg (fun z : List Evt × Int × Hf × SS × SS => some (Chunk.box (cnC z.2.1 z.2.2.1 g (.loc 1 0) (.loc 2 0)))) e, congrArg (fun z : List Evt × Int × Hf × SS × SS => some (Chunk.box (bxS z.2.2.2.1))) e, congrArg (fun z : List Evt × Int × Hf × SS × SS => some (Chunk.box (bxS z.2.2.2.2))) e, trivial⟩
      · cases h3
set_option maxRecDepth 16000 in
theorem f11_o2 (st : Int) (p g : Hf) (s t : SS) (B : Int) (is : SInv s B) (it : SInv t B) (hB : B ≤ 1099511600000) (a b q k f w u : Int) (o : List optT.D) (x : List UInt8) (ho : o.length < 9223372036854775807) (hx : x.length ≤ 1000000) (hop : opB st = true) :
    HSpec P G 11 [.loc 0 0, .int .i64 2, tcpV a b q k f w u o x] (cnH st g p t s) (.list evT (sgH 2 1 st p g s t q k f o x).1) [(0, .box (cnC (sgH 2 1 st p g s t q k f o x).2.1 g (sgH 2 1 st p g s t q k f o x).2.2.1 (.loc 1 0) (.loc 2 0))), (1, .box (bxS (sgH 2 1 st p g s t q k f o x).2.2.2.2)), (2, .box (bxS (sgH 2 1 st p g s t q k f o x).2.2.2.1))] := by
  generalize hz : sgH 2 1 st p g s t q k f o x = z; refine fspec_intro hT (cnH st g p t s) [(0, .box (cnC z.2.1 g z.2.2.1 (.loc 1 0) (.loc 2 0))), (1, .box (bxS z.2.2.2.2)), (2, .box (bxS z.2.2.2.1))] 3 3 Tryd.func11 (by decide) rfl rfl (by kernel_rfl) rfl rfl ?_
  refine Tri.seq (Tri.reg hT ?_)
  refine Tri.seq ?_
  refine Tri.seq (Tri.reg hT ?_)
  refine ⟨_, [], trivial, rfl, rfl, fun h => ⟨rfl, rfl, rfl⟩, ?_⟩
  refine ⟨_, [], trivial, rfl, rfl, fun h => ⟨h, (.inl ⟨_, fun _ => rfl, f18_spec 2, rfl, rfl, rfl⟩)⟩, ?_⟩
  refine ⟨_, [], trivial, rfl, rfl, fun h => ⟨h, rfl, rfl, rfl⟩, ?_⟩
  refine ⟨⟨fun _ => trivial, fun hc => (gn hc)⟩, ?_⟩
  refine (Tri.cond ⟨fun h1 => ?_, fun h1 => ?_⟩)
  · exact absurd h1 (by decide)
  · refine (Tri.skip ?_)
    refine Tri.seq ?_
    refine Tri.seq (Tri.reg hT ?_)
    refine .inl (.inl ⟨_, fun _ => rfl, f19_spec f, ?_⟩)
    refine (Tri.cond ⟨fun h2 => ?_, fun h2 => ?_⟩)
    · refine Tri.seq (Tri.reg hT ?_)
      refine .inl (.inr (.inl ⟨_, _, (by exact ⟨rfl, rfl, rfl, trivial⟩), (CSpec.ofH (u := [(0, cnC st g p (.loc 1 0) (.loc 2 0), none), (1, bxS t, none), (2, bxS s, none)]) (f20_h2 st g p t s 3)), (by rfl), ?_⟩))
      refine Tri.ret ?_
      have e := (if_pos h2).symm.trans hz; exact ⟨congrArg (fun z : List Evt × Int × Hf × SS × SS => AV.list evT z.1) e, congrArg (fun z : List Evt × Int × Hf × SS × SS => some (Chunk.box (cnC z.2.1 g z.2.2.1 (.loc 1 0) (.loc 2 0)))) e, congrArg (fun z : List Evt × Int × Hf × SS × SS => some (Chunk.box (bxS z.2.2.2.2))) e, congrArg (fun z : List Evt × Int × Hf × SS × SS => some (Chunk.box (bxS z.2.2.2.1))) e, trivial⟩
    · refine (Tri.skip ?_)
      refine Tri.seq ?_
      refine Tri.seq (Tri.reg hT ?_)
      refine .inl (.inr (.inl ⟨_, _, (by exact ⟨rfl, rfl, rfl, trivial⟩), (CSpec.ofH (u := [(0, cnC st g p (.loc 1 0) (.loc 2 0), none), (1, bxS t, none), (2, bxS s, none)]) (f21_ht st g p t s hop)), (by rfl), ?_⟩))
      refine (Tri.cond ⟨fun h3 => ?_, fun h3 => ?_⟩)
      · refine Tri.seq (Tri.reg hT ?_)
        refine .inl (.inr (.inl ⟨_, _, (by exact ⟨rfl, rfl, rfl, trivial⟩), (CSpec.ofH (u := [(0, cnC st g p (.loc 1 0) (.loc 2 0), some (cnC (prM 2 1 st p g s t q k f o x).2.1 g (prM 2 1 st p g s t q k f o x).2.2.1 (.loc 1 0) (.loc 2 0))), (1, bxS t, some (bxS (prM 2 1 st p g s t q k f o x).2.2.2.2)), (2, bxS s, some (bxS (prM 2 1 st p g s t q k f o x).2.2.2.1))]) (f22_h2 st p g s t B is it hB a b q k f w u o x ho hx)), (by rfl), ?_⟩))
        refine Tri.ret ?_
        have e := ((if_neg (by rw [h2]; decide))).symm.trans hz; exact ⟨congrArg (fun z : List Evt × Int × Hf × SS × SS => AV.list evT z.1) e, congrArg (fun z : List Evt × Int × Hf × SS × SS => some (Chunk.box (cnC z.2.1 g z.2.2.1 (.loc 1 0) (.loc 2 0)))) e, congrArg (fun z : List Evt × Int × Hf × SS × SS => some (Chunk.box (bxS z.2.2.2.2))) e, congrArg (fun z : List Evt × Int × Hf × SS × SS => some (Chunk.box (bxS z.2.2.2.1))) e, trivial⟩
      · cases h3
set_option maxRecDepth 16000 in
theorem f11_s1 (st : Int) (p g : Hf) (s t : SS) (a b q k f w u : Int) (o : List optT.D) (x : List UInt8) (ho : o.length < 9223372036854775807) (hx : x.length ≤ 1000000) (hop : opB st = false) (hs2 : st ≠ 2) (hf : flags f = true) (hc : (synB f && !ackB f) = true) :
    HSpec P G 11 [.loc 0 0, .int .i64 1, tcpV a b q k f w u o x] (cnH st p g s t) (.list evT []) [(0, .box (cnC 1 (begH p q o) g .nilp .nilp)), (1, .box (bxS s)), (2, .box (bxS t))] := by
  refine fspec_intro hT (cnH st p g s t) [(0, .box (cnC 1 (begH p q o) g .nilp .nilp)), (1, .box (bxS s)), (2, .box (bxS t))] 3 3 Tryd.func11 (by decide) rfl rfl (by kernel_rfl) rfl rfl ?_
  refine Tri.seq (Tri.reg hT ?_)
  refine Tri.seq ?_
  refine Tri.seq (Tri.reg hT ?_)
  refine ⟨_, [], trivial, rfl, rfl, fun h => ⟨rfl, rfl, rfl⟩, ?_⟩
  refine ⟨_, [], trivial, rfl, rfl, fun h => ⟨h, (.inl ⟨_, fun _ => rfl, f18_spec 1, rfl, rfl, rfl⟩)⟩, ?_⟩
  refine ⟨_, [], trivial, rfl, rfl, fun h => ⟨h, rfl, rfl, rfl⟩, ?_⟩
  refine ⟨⟨fun _ => trivial, fun hc => (gn hc)⟩, ?_⟩
  refine (Tri.cond ⟨fun h1 => ?_, fun h1 => ?_⟩)
  · exact absurd h1 (by decide)
  · refine (Tri.skip ?_)
    refine Tri.seq ?_
    refine Tri.seq (Tri.reg hT ?_)
    refine .inl (.inl ⟨_, fun _ => rfl, f19_spec f, ?_⟩)
    refine (Tri.cond ⟨fun h2 => ?_, fun h2 => ?_⟩)
    · exact absurd h2 (by rw [hf]; decide)
    · refine (Tri.skip ?_)
      refine Tri.seq ?_
      refine Tri.seq (Tri.reg hT ?_)
      refine .inl (.inr (.inl ⟨_, _, (by exact ⟨rfl, rfl, rfl, trivial⟩), (CSpec.ofH (u := [(0, cnC st p g (.loc 1 0) (.loc 2 0), none), (1, bxS s, none), (2, bxS t, none)]) (f21_hf st p g s t hop)), (by rfl), ?_⟩))
      refine (Tri.cond ⟨fun h3 => ?_, fun h3 => ?_⟩)
      · cases h3
      · refine (Tri.skip ?_)
        refine Tri.seq (Tri.drw hT hm 9 (by kernel_rfl) ?_)
        refine ⟨by kernel_rfl, ?_⟩
        refine Tri.seq (Tri.block ?_)
        refine Tri.seq (Tri.reg hT ?_)
        refine ⟨_, [], trivial, rfl, rfl, fun h => ⟨rfl, rfl, rfl⟩, ?_⟩
        refine ⟨_, [], trivial, rfl, rfl, fun h => ⟨h, rfl, rfl, rfl⟩, ?_⟩
        refine ⟨⟨fun hc => hc, fun _ => trivial⟩, ?_⟩
        refine ⟨_, [], trivial, rfl, rfl, fun h => ⟨rfl, rfl, rfl⟩, ?_⟩
        refine ⟨_, [], trivial, rfl, rfl, fun h => ⟨h, rfl, rfl, rfl⟩, ?_⟩
        refine ⟨⟨fun hc => hc, fun _ => trivial⟩, ?_⟩
        refine ⟨_, [], trivial, rfl, rfl, fun h => ⟨rfl, rfl, rfl⟩, ?_⟩
        refine ⟨_, [], trivial, rfl, rfl, fun h => ⟨h, rfl, rfl, rfl⟩, ?_⟩
        refine ⟨_, [], trivial, rfl, rfl, fun h => ⟨h, rfl, rfl, rfl⟩, ?_⟩
        refine ⟨_, [], trivial, rfl, rfl, fun h => ⟨h, rfl, rfl, rfl⟩, ?_⟩
        refine ⟨_, [], trivial, rfl, rfl, fun h => ⟨h, rfl, rfl, rfl⟩, ?_⟩
        refine ⟨⟨fun hc => hc, fun _ => trivial⟩, ?_⟩
        refine (Tri.cond ⟨fun h4 => ?_, fun h4 => ?_⟩)
        · refine Tri.seq (Tri.reg hT ?_)
          refine .inl (.inr (.inl ⟨_, _, (by exact ⟨rfl, rfl, rfl, trivial⟩), (CSpec.ofH (u := [(0, cnC st p g (.loc 1 0) (.loc 2 0), some (cnC st (begH p q o) g .nilp (.loc 2 0))), (1, bxS s, none), (2, bxS t, none)]) (f23_h1 st p g s t a b q f w u k o x ho)), (by rfl), ?_⟩))
          refine Tri.seq (Tri.reg hT ?_)
          refine ⟨(by first | ((try simp only [decide_eq_true_eq, decide_eq_false_iff_not, toNat_cast] at *); omega) | decide), ?_⟩
          refine Tri.seq (Tri.reg hT ?_)
          refine Tri.seq (Tri.reg hT ?_)
          refine Tri.le _ (Le.own 6 evT rfl) ?_; refine Tri.le _ (Le.freeze 6 _ 0 rfl rfl (Nat.le_refl 0)) ?_
          refine Tri.ret ?_
          exact ⟨rfl, rfl, rfl, rfl, trivial⟩
        · exact absurd h4 (by simp only [iteA]; unfold synB ackB at hc; simp_all)
set_option maxRecDepth 16000 in
theorem f11_r1 (st : Int) (p g : Hf) (s t : SS) (a b q k f w u : Int) (o : List optT.D) (x : List UInt8) (ho : o.length < 9223372036854775807) (hx : x.length ≤ 1000000) (hop : opB st = false) (hs1 : st ≠ 1) (hs2 : st ≠ 2) (hc : (flags f && (synB f && !ackB f)) = false) :
    HSpec P G 11 [.loc 0 0, .int .i64 1, tcpV a b q k f w u o x] (cnH st p g s t) (.list evT [(7, 1, s.pos, (if flags f = true then 7 else 3), [], ())]) (cnH st p g s t) := by
  refine fspec_intro hT (cnH st p g s t) (cnH st p g s t) 3 3 Tryd.func11 (by decide) rfl rfl (by kernel_rfl) rfl rfl ?_
  refine Tri.seq (Tri.reg hT ?_)
  refine Tri.seq ?_
  refine Tri.seq (Tri.reg hT ?_)
  refine ⟨_, [], trivial, rfl, rfl, fun h => ⟨rfl, rfl, rfl⟩, ?_⟩
  refine ⟨_, [], trivial, rfl, rfl, fun h => ⟨h, (.inl ⟨_, fun _ => rfl, f18_spec 1, rfl, rfl, rfl⟩)⟩, ?_⟩
  refine ⟨_, [], trivial, rfl, rfl, fun h => ⟨h, rfl, rfl, rfl⟩, ?_⟩
  refine ⟨⟨fun _ => trivial, fun hc => (gn hc)⟩, ?_⟩
  refine (Tri.cond ⟨fun h1 => ?_, fun h1 => ?_⟩)
  · exact absurd h1 (by decide)
  · refine (Tri.skip ?_)
    refine Tri.seq ?_
    refine Tri.seq (Tri.reg hT ?_)
    refine .inl (.inl ⟨_, fun _ => rfl, f19_spec f, ?_⟩)
    refine (Tri.cond ⟨fun h2 => ?_, fun h2 => ?_⟩)
    · refine Tri.seq (Tri.reg hT ?_)
      refine .inl (.inr (.inl ⟨_, _, (by exact ⟨rfl, rfl, rfl, trivial⟩), (CSpec.ofH (u := [(0, cnC st p g (.loc 1 0) (.loc 2 0), none), (1, bxS s, none), (2, bxS t, none)]) (f20_h1 st p g s t 3)), (by rfl), ?_⟩))
      refine Tri.ret ?_
      exact ⟨congrArg (fun n => AV.list evT [(7, 1, s.pos, n, [], ())]) (if_neg (by simpa using h2)).symm, rfl, rfl, rfl, trivial⟩
    · refine (Tri.skip ?_)
      refine Tri.seq ?_
      refine Tri.seq (Tri.reg hT ?_)
      refine .inl (.inr (.inl ⟨_, _, (by exact ⟨rfl, rfl, rfl, trivial⟩), (CSpec.ofH (u := [(0, cnC st p g (.loc 1 0) (.loc 2 0), none), (1, bxS s, none), (2, bxS t, none)]) (f21_hf st p g s t hop)), (by rfl), ?_⟩))
      refine (Tri.cond ⟨fun h3 => ?_, fun h3 => ?_⟩)
      · cases h3
      · refine (Tri.skip ?_)
        refine Tri.seq (Tri.drw hT hm 9 (by kernel_rfl) ?_)
        refine ⟨by kernel_rfl, ?_⟩
        refine Tri.seq (Tri.block ?_)
        refine Tri.seq (Tri.reg hT ?_)
        refine ⟨_, [], trivial, rfl, rfl, fun h => ⟨rfl, rfl, rfl⟩, ?_⟩
        refine ⟨_, [], trivial, rfl, rfl, fun h => ⟨h, rfl, rfl, rfl⟩, ?_⟩
        refine ⟨⟨fun hc => hc, fun _ => trivial⟩, ?_⟩
        refine ⟨_, [], trivial, rfl, rfl, fun h => ⟨rfl, rfl, rfl⟩, ?_⟩
        refine ⟨_, [], trivial, rfl, rfl, fun h => ⟨h, rfl, rfl, rfl⟩, ?_⟩
        refine ⟨⟨fun hc => hc, fun _ => trivial⟩, ?_⟩
        refine ⟨_, [], trivial, rfl, rfl, fun h => ⟨rfl, rfl, rfl⟩, ?_⟩
        refine ⟨_, [], trivial, rfl, rfl, fun h => ⟨h, rfl, rfl, rfl⟩, ?_⟩
        refine ⟨_, [], trivial, rfl, rfl, fun h => ⟨h, rfl, rfl, rfl⟩, ?_⟩
        refine ⟨_, [], trivial, rfl, rfl, fun h => ⟨h, rfl, rfl, rfl⟩, ?_⟩
        refine ⟨_, [], trivial, rfl, rfl, fun h => ⟨h, rfl, rfl, rfl⟩, ?_⟩
        refine ⟨⟨fun hc => hc, fun _ => trivial⟩, ?_⟩
        refine (Tri.cond ⟨fun h4 => ?_, fun h4 => ?_⟩)
        · exact absurd h4 (by simp only [iteA]; have h2' : flags f = true := (by simpa using h2); unfold synB ackB at hc; simp_all)
        · refine Tri.seq (Tri.reg hT ?_)
          refine ⟨_, [], trivial, rfl, rfl, fun h => ⟨rfl, rfl, rfl⟩, ?_⟩
          refine ⟨⟨fun hc => hc, fun _ => trivial⟩, ?_⟩
          refine ⟨_, [], trivial, rfl, rfl, fun h => ⟨rfl, rfl, rfl⟩, ?_⟩
          refine ⟨_, [], trivial, rfl, rfl, fun h => ⟨h, rfl, rfl, rfl⟩, ?_⟩
          refine ⟨⟨fun hc => hc, fun _ => trivial⟩, ?_⟩
          refine ⟨_, [], trivial, rfl, rfl, fun h => ⟨rfl, rfl, rfl⟩, ?_⟩
          refine ⟨_, [], trivial, rfl, rfl, fun h => ⟨h, rfl, rfl, rfl⟩, ?_⟩
          refine ⟨_, [], trivial, rfl, rfl, fun h => ⟨h, rfl, rfl, rfl⟩, ?_⟩
          refine ⟨_, [], trivial, rfl, rfl, fun h => ⟨h, rfl, rfl, rfl⟩, ?_⟩
          refine ⟨_, [], trivial, rfl, rfl, fun h => ⟨h, rfl, rfl, rfl⟩, ?_⟩
          refine ⟨_, [], trivial, rfl, rfl, fun h => ⟨h, rfl, rfl, rfl⟩, ?_⟩
          refine ⟨_, [], trivial, rfl, rfl, fun h => ⟨rfl, rfl, rfl⟩, ?_⟩
          refine ⟨_, [], trivial, rfl, rfl, fun h => ⟨h, rfl, rfl, rfl⟩, ?_⟩
          refine ⟨_, [], trivial, rfl, rfl, fun h => ⟨h, rfl, rfl, rfl⟩, ?_⟩
          refine ⟨_, [], trivial, rfl, rfl, fun h => ⟨h, rfl, rfl, rfl⟩, ?_⟩
          refine ⟨_, [], trivial, rfl, rfl, fun h => ⟨h, rfl, rfl, rfl⟩, ?_⟩
          refine ⟨_, [], trivial, rfl, rfl, fun h => ⟨h, ⟨fun _ => trivial, fun hc => ga h (gn hc)⟩, rfl, rfl, rfl⟩, ?_⟩
          refine ⟨⟨fun hc => hc, fun _ => trivial⟩, ?_⟩
          refine (Tri.cond ⟨fun h5 => ?_, fun h5 => ?_⟩)
          · exact absurd h5 (by simp [iteA, iteO, hs1, hs2])
          · refine Tri.seq (Tri.reg hT ?_)
            refine ⟨_, [], trivial, rfl, rfl, fun h => ⟨rfl, rfl, rfl⟩, ?_⟩
            refine ⟨_, [], trivial, rfl, rfl, fun h => ⟨h, rfl, rfl, rfl⟩, ?_⟩
            refine ⟨_, [], trivial, rfl, rfl, fun h => ⟨h, rfl, rfl, rfl⟩, ?_⟩
            refine ⟨_, [], trivial, rfl, rfl, fun h => ⟨h, rfl, rfl, rfl⟩, ?_⟩
            refine ⟨⟨fun hc => hc, fun _ => trivial⟩, ?_⟩
            refine ⟨_, [], trivial, rfl, rfl, fun h => ⟨rfl, rfl, rfl⟩, ?_⟩
            refine ⟨_, [], trivial, rfl, rfl, fun h => ⟨h, rfl, rfl, rfl⟩, ?_⟩
            refine ⟨⟨fun hc => hc, fun _ => trivial⟩, ?_⟩
            refine ⟨_, [], trivial, rfl, rfl, fun h => ⟨rfl, rfl, rfl⟩, ?_⟩
            refine ⟨_, [], trivial, rfl, rfl, fun h => ⟨h, rfl, rfl, rfl⟩, ?_⟩
            refine ⟨_, [], trivial, rfl, rfl, fun h => ⟨h, rfl, rfl, rfl⟩, ?_⟩
            refine ⟨_, [], trivial, rfl, rfl, fun h => ⟨h, rfl, rfl, rfl⟩, ?_⟩
            refine ⟨_, [], trivial, rfl, rfl, fun h => ⟨h, rfl, rfl, rfl⟩, ?_⟩
            refine ⟨⟨fun hc => hc, fun _ => trivial⟩, ?_⟩
            refine (Tri.cond ⟨fun h6 => ?_, fun h6 => ?_⟩)
            · exact absurd h6 (by simp [iteA, hs2])
            · refine (Tri.skip ?_)
              refine Tri.seq (Tri.reg hT ?_)
              refine .inl (.inr (.inl ⟨_, _, (by exact ⟨rfl, rfl, rfl, trivial⟩), (CSpec.ofH (u := [(0, cnC st p g (.loc 1 0) (.loc 2 0), none), (1, bxS s, none), (2, bxS t, none)]) (f20_h1 st p g s t 7)), (by rfl), ?_⟩))
              refine Tri.ret ?_
              exact ⟨congrArg (fun n => AV.list evT [(7, 1, s.pos, n, [], ())]) (if_pos (by simpa using h2)).symm, rfl, rfl, rfl, trivial⟩
set_option maxRecDepth 16000 in
theorem f11_r2 (st : Int) (p g : Hf) (s t : SS) (a b q k f w u : Int) (o : List optT.D) (x : List UInt8) (ho : o.length < 9223372036854775807) (hx : x.length ≤ 1000000) (hop : opB st = false) (hs1 : st ≠ 1) (hs2 : st ≠ 2) :
    HSpec P G 11 [.loc 0 0, .int .i64 2, tcpV a b q k f w u o x] (cnH st p g s t) (.list evT [(7, 2, t.pos, (if flags f = true then 7 else 3), [], ())]) (cnH st p g s t) := by
  refine fspec_intro hT (cnH st p g s t) (cnH st p g s t) 3 3 Tryd.func11 (by decide) rfl rfl (by kernel_rfl) rfl rfl ?_
  refine Tri.seq (Tri.reg hT ?_)
  refine Tri.seq ?_
  refine Tri.seq (Tri.reg hT ?_)
  refine ⟨_, [], trivial, rfl, rfl, fun h => ⟨rfl, rfl, rfl⟩, ?_⟩
  refine ⟨_, [], trivial, rfl, rfl, fun h => ⟨h, (.inl ⟨_, fun _ => rfl, f18_spec 2, rfl, rfl, rfl⟩)⟩, ?_⟩
  refine ⟨_, [], trivial, rfl, rfl, fun h => ⟨h, rfl, rfl, rfl⟩, ?_⟩
  refine ⟨⟨fun _ => trivial, fun hc => (gn hc)⟩, ?_⟩
  refine (Tri.cond ⟨fun h1 => ?_, fun h1 => ?_⟩)
  · exact absurd h1 (by decide)
  · refine (Tri.skip ?_)
    refine Tri.seq ?_
    refine Tri.seq (Tri.reg hT ?_)
    refine .inl (.inl ⟨_, fun _ => rfl, f19_spec f, ?_⟩)
    refine (Tri.cond ⟨fun h2 => ?_, fun h2 => ?_⟩)
    · refine Tri.seq (Tri.reg hT ?_)
      refine .inl (.inr (.inl ⟨_, _, (by exact ⟨rfl, rfl, rfl, trivial⟩), (CSpec.ofH (u := [(0, cnC st p g (.loc 1 0) (.loc 2 0), none), (1, bxS s, none), (2, bxS t, none)]) (f20_h2 st p g s t 3)), (by rfl), ?_⟩))
      refine Tri.ret ?_
      exact ⟨congrArg (fun n => AV.list evT [(7, 2, t.pos, n, [], ())]) (if_neg (by simpa using h2)).symm, rfl, rfl, rfl, trivial⟩
    · refine (Tri.skip ?_)
      refine Tri.seq ?_
      refine Tri.seq (Tri.reg hT ?_)
      refine .inl (.inr (.inl ⟨_, _, (by exact ⟨rfl, rfl, rfl, trivial⟩), (CSpec.ofH (u := [(0, cnC st p g (.loc 1 0) (.loc 2 0), none), (1, bxS s, none), (2, bxS t, none)]) (f21_hf st p g s t hop)), (by rfl), ?_⟩))
      refine (Tri.cond ⟨fun h3 => ?_, fun h3 => ?_⟩)
      · cases h3
      · refine (Tri.skip ?_)
        refine Tri.seq (Tri.drw hT hm 9 (by kernel_rfl) ?_)
        refine ⟨by kernel_rfl, ?_⟩
        refine Tri.seq (Tri.block ?_)
        refine Tri.seq (Tri.reg hT ?_)
        refine ⟨_, [], trivial, rfl, rfl, fun h => ⟨rfl, rfl, rfl⟩, ?_⟩
        refine ⟨_, [], trivial, rfl, rfl, fun h => ⟨h, rfl, rfl, rfl⟩, ?_⟩
        refine ⟨⟨fun hc => hc, fun _ => trivial⟩, ?_⟩
        refine ⟨_, [], trivial, rfl, rfl, fun h => ⟨rfl, rfl, rfl⟩, ?_⟩
        refine ⟨_, [], trivial, rfl, rfl, fun h => ⟨h, rfl, rfl, rfl⟩, ?_⟩
        refine ⟨⟨fun hc => hc, fun _ => trivial⟩, ?_⟩
        refine ⟨_, [], trivial, rfl, rfl, fun h => ⟨rfl, rfl, rfl⟩, ?_⟩
        refine ⟨_, [], trivial, rfl, rfl, fun h => ⟨h, rfl, rfl, rfl⟩, ?_⟩
        refine ⟨_, [], trivial, rfl, rfl, fun h => ⟨h, rfl, rfl, rfl⟩, ?_⟩
        refine ⟨_, [], trivial, rfl, rfl, fun h => ⟨h, rfl, rfl, rfl⟩, ?_⟩
        refine ⟨_, [], trivial, rfl, rfl, fun h => ⟨h, rfl, rfl, rfl⟩, ?_⟩
        refine ⟨⟨fun hc => hc, fun _ => trivial⟩, ?_⟩
        refine (Tri.cond ⟨fun h4 => ?_, fun h4 => ?_⟩)
        · exact absurd h4 (by simp only [iteA]; simp)
        · refine Tri.seq (Tri.reg hT ?_)
          refine ⟨_, [], trivial, rfl, rfl, fun h => ⟨rfl, rfl, rfl⟩, ?_⟩
          refine ⟨⟨fun hc => hc, fun _ => trivial⟩, ?_⟩
          refine ⟨_, [], trivial, rfl, rfl, fun h => ⟨rfl, rfl, rfl⟩, ?_⟩
          refine ⟨_, [], trivial, rfl, rfl, fun h => ⟨h, rfl, rfl, rfl⟩, ?_⟩
          refine ⟨⟨fun hc => hc, fun _ => trivial⟩, ?_⟩
          refine ⟨_, [], trivial, rfl, rfl, fun h => ⟨rfl, rfl, rfl⟩, ?_⟩
          refine ⟨_, [], trivial, rfl, rfl, fun h => ⟨h, rfl, rfl, rfl⟩, ?_⟩
          refine ⟨_, [], trivial, rfl, rfl, fun h => ⟨h, rfl, rfl, rfl⟩, ?_⟩
          refine ⟨_, [], trivial, rfl, rfl, fun h => ⟨h, rfl, rfl, rfl⟩, ?_⟩
          refine ⟨_, [], trivial, rfl, rfl, fun h => ⟨h, rfl, rfl, rfl⟩, ?_⟩
          refine ⟨_, [], trivial, rfl, rfl, fun h => ⟨h, rfl, rfl, rfl⟩, ?_⟩
          refine ⟨_, [], trivial, rfl, rfl, fun h => ⟨rfl, rfl, rfl⟩, ?_⟩
          refine ⟨_, [], trivial, rfl, rfl, fun h => ⟨h, rfl, rfl, rfl⟩, ?_⟩
          refine ⟨_, [], trivial, rfl, rfl, fun h => ⟨h, rfl, rfl, rfl⟩, ?_⟩
          refine ⟨_, [], trivial, rfl, rfl, fun h => ⟨h, rfl, rfl, rfl⟩, ?_⟩
          refine ⟨_, [], trivial, rfl, rfl, fun h => ⟨h, rfl, rfl, rfl⟩, ?_⟩
          refine ⟨_, [], trivial, rfl, rfl, fun h => ⟨h, ⟨fun _ => trivial, fun hc => ga h (gn hc)⟩, rfl, rfl, rfl⟩, ?_⟩
          refine ⟨⟨fun hc => hc, fun _ => trivial⟩, ?_⟩
          refine (Tri.cond ⟨fun h5 => ?_, fun h5 => ?_⟩)
          · exact absurd h5 (by simp [iteA, iteO, hs1, hs2])
          · refine Tri.seq (Tri.reg hT ?_)
            refine ⟨_, [], trivial, rfl, rfl, fun h => ⟨rfl, rfl, rfl⟩, ?_⟩
            refine ⟨_, [], trivial, rfl, rfl, fun h => ⟨h, rfl, rfl, rfl⟩, ?_⟩
            refine ⟨_, [], trivial, rfl, rfl, fun h => ⟨h, rfl, rfl, rfl⟩, ?_⟩
            refine ⟨_, [], trivial, rfl, rfl, fun h => ⟨h, rfl, rfl, rfl⟩, ?_⟩
            refine ⟨⟨fun hc => hc, fun _ => trivial⟩, ?_⟩
            refine ⟨_, [], trivial, rfl, rfl, fun h => ⟨rfl, rfl, rfl⟩, ?_⟩
            refine ⟨_, [], trivial, rfl, rfl, fun h => ⟨h, rfl, rfl, rfl⟩, ?_⟩
            refine ⟨⟨fun hc => hc, fun _ => trivial⟩, ?_⟩
            refine ⟨_, [], trivial, rfl, rfl, fun h => ⟨rfl, rfl, rfl⟩, ?_⟩
            refine ⟨_, [], trivial, rfl, rfl, fun h => ⟨h, rfl, rfl, rfl⟩, ?_⟩
            refine ⟨_, [], trivial, rfl, rfl, fun h => ⟨h, rfl, rfl, rfl⟩, ?_⟩
            refine ⟨_, [], trivial, rfl, rfl, fun h => ⟨h, rfl, rfl, rfl⟩, ?_⟩
            refine ⟨_, [], trivial, rfl, rfl, fun h => ⟨h, rfl, rfl, rfl⟩, ?_⟩
            refine ⟨⟨fun hc => hc, fun _ => trivial⟩, ?_⟩
            refine (Tri.cond ⟨fun h6 => ?_, fun h6 => ?_⟩)
            · exact absurd h6 (by simp [iteA, hs2])
            · refine (Tri.skip ?_)
              refine Tri.seq (Tri.reg hT ?_)
              refine .inl (.inr (.inl ⟨_, _, (by exact ⟨rfl, rfl, rfl, trivial⟩), (CSpec.ofH (u := [(0, cnC st p g (.loc 1 0) (.loc 2 0), none), (1, bxS s, none), (2, bxS t, none)]) (f20_h2 st p g s t 7)), (by rfl), ?_⟩))
              refine Tri.ret ?_
              exact ⟨congrArg (fun n => AV.list evT [(7, 2, t.pos, n, [], ())]) (if_pos (by simpa using h2)).symm, rfl, rfl, rfl, trivial⟩
set_option maxRecDepth 16000 in
theorem f11_xn (st : Int) (p g : Hf) (d : Int) (a b q k f w u : Int) (o : List optT.D) (x : List UInt8) (ho : o.length < 9223372036854775807) (hx : x.length ≤ 1000000) (hd1 : d ≠ 1) (hd2 : d ≠ 2) :
    HSpec P G 11 [.loc 0 0, .int .i64 d, tcpV a b q k f w u o x] (cnN st p g) (.list evT []) (cnN st p g) := by
  refine fspec_intro hT (cnN st p g) (cnN st p g) 1 1 Tryd.func11 (by decide) rfl rfl (by kernel_rfl) rfl rfl ?_
  refine Tri.seq (Tri.reg hT ?_)
  refine Tri.seq ?_
  refine Tri.seq (Tri.reg hT ?_)
  refine ⟨_, [], trivial, rfl, rfl, fun h => ⟨rfl, rfl, rfl⟩, ?_⟩
  refine ⟨_, [], trivial, rfl, rfl, fun h => ⟨h, (.inl ⟨_, fun _ => rfl, f18_spec d, rfl, rfl, rfl⟩)⟩, ?_⟩
  refine ⟨_, [], trivial, rfl, rfl, fun h => ⟨h, rfl, rfl, rfl⟩, ?_⟩
  refine ⟨⟨fun _ => trivial, fun hc => (gn hc)⟩, ?_⟩
  refine (Tri.cond ⟨fun h1 => ?_, fun h1 => ?_⟩)
  · refine Tri.seq (Tri.reg hT ?_)
    refine Tri.le _ (Le.own 6 evT rfl) ?_; refine Tri.le _ (Le.freeze 6 _ 0 rfl rfl (Nat.le_refl 0)) ?_
    refine Tri.ret ?_
    exact ⟨rfl, rfl, trivial⟩
  · exact absurd h1 (by simp [hd1, hd2])
set_option maxRecDepth 16000 in
theorem f11_xh (st : Int) (p g : Hf) (s t : SS) (d : Int) (a b q k f w u : Int) (o : List optT.D) (x : List UInt8) (ho : o.length < 9223372036854775807) (hx : x.length ≤ 1000000) (hd1 : d ≠ 1) (hd2 : d ≠ 2) :
    HSpec P G 11 [.loc 0 0, .int .i64 d, tcpV a b q k f w u o x] (cnH st p g s t) (.list evT []) (cnH st p g s t) := by
  refine fspec_intro hT (cnH st p g s t) (cnH st p g s t) 3 3 Tryd.func11 (by decide) rfl rfl (by kernel_rfl) rfl rfl ?_
  refine Tri.seq (Tri.reg hT ?_)
  refine Tri.seq ?_
  refine Tri.seq (Tri.reg hT ?_)
  refine ⟨_, [], trivial, rfl, rfl, fun h => ⟨rfl, rfl, rfl⟩, ?_⟩
  refine ⟨_, [], trivial, rfl, rfl, fun h => ⟨h, (.inl ⟨_, fun _ => rfl, f18_spec d, rfl, rfl, rfl⟩)⟩, ?_⟩
  refine ⟨_, [], trivial, rfl, rfl, fun h => ⟨h, rfl, rfl, rfl⟩, ?_⟩
  refine ⟨⟨fun _ => trivial, fun hc => (gn hc)⟩, ?_⟩
  refine (Tri.cond ⟨fun h1 => ?_, fun h1 => ?_⟩)
  · refine Tri.seq (Tri.reg hT ?_)
    refine Tri.le _ (Le.own 6 evT rfl) ?_; refine Tri.le _ (Le.freeze 6 _ 0 rfl rfl (Nat.le_refl 0)) ?_
    refine Tri.ret ?_
    exact ⟨rfl, rfl, rfl, rfl, trivial⟩
  · exact absurd h1 (by simp [hd1, hd2])
end Go.Proofs.YtchiagnggnblaaaDoor.Ac

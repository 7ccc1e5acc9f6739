import Derived.Test.YtchiagnggnblaaaDoorOvB
set_option linter.all false
/- The walk of Insert. -/
namespace Go.Proofs.YtchiagnggnblaaaDoor.Fx
open Go Go.Fw Go.Ov
abbrev SI (l : List Pc) (pol : Int) (q : Pc) (i : Nat) (s : Ins) : St :=
  ⟨203, 0, 40, [(0, .list pT l), (2, .int .i64 pol), (4, .loc 0 0), (9, .own 39 s.out.length), (10, .int .i64 s.conf), (11, .int .i64 s.cov), (12, .int .i64 s.at_), (52, .list pT l), (53, .int .i64 l.length), (54, .int .i64 (i : Int))],
    [(0, .box [.int .i64 (pa q), .str (pd q), .int .i64 (pf q), .int .i64 (pt q)]), (39, .arr pT s.out)], []⟩
abbrev SR (l : List Pc) (pol : Int) (q : Pc) (s : Ins) : St :=
  ⟨203, 0, 40, [(0, .list pT l), (2, .int .i64 pol), (4, .loc 0 0), (9, .own 39 s.out.length), (10, .int .i64 s.conf), (11, .int .i64 s.cov), (12, .int .i64 s.at_)],
    [(0, .box [.int .i64 (pa q), .str (pd q), .int .i64 (pf q), .int .i64 (pt q)]), (39, .arr pT s.out)], []⟩
abbrev SF (l : List Pc) (pol : Int) (q : Pc) (s : Ins) : St :=
  ⟨203, 0, 40, [(0, .list pT l), (2, .int .i64 pol), (4, .loc 0 0), (9, .own 39 s.out.length), (10, .int .i64 s.conf), (11, .int .i64 s.cov)],
    [(0, .box [.int .i64 (pa q), .str (pd q), .int .i64 (pf q), .int .i64 (pt q)]), (39, .arr pT s.out)], []⟩
abbrev SM (l : List Pc) (pol : Int) (q o : Pc) (i : Nat) (out : List Pc) (conf cov a : Int) : St :=
  ⟨203, 0, 45, [(0, .list pT l), (2, .int .i64 pol), (4, .loc 0 0), (9, .own 39 out.length), (10, .int .i64 conf), (11, .int .i64 cov), (12, .int .i64 a), (14, .loc 44 0), (17, .int .i64 (frP q o)), (18, .int .i64 (toP q o)), (52, .list pT l), (53, .int .i64 l.length), (54, .int .i64 (i : Int))],
    [(0, .box [.int .i64 (pa q), .str (pd q), .int .i64 (pf q), .int .i64 (pt q)]), (39, .arr pT out), (44, .box [.int .i64 (pa o), .str (pd o), .int .i64 (pf o), .int .i64 (pt o)])], []⟩
theorem f50_spec (l : List Pc) (p : Pc) (pol : Int) (hl : l.length ≤ 1073741824) (hv : Valid l) (hp : ((pd p).length : Int) ≤ 1099511627776) :
    PSpec P [] 50 [.list pT l, pv p, .int .i64 pol] (.tup [.list pT (insR l p pol).1, .int .i64 (insR l p pol).2.1, .int .i64 (insR l p pol).2.2]) := by
  refine pspec_intro hT Tryd.func50 (by decide) rfl rfl (by kernel_rfl) rfl ?_
  refine Tri.seq (Tri.reg hT ?_)
  refine (Tri.scope ?_)
  refine Tri.seq (Tri.block ?_)
  refine Tri.seq (Tri.reg hT ?_)
  refine (Tri.cond ⟨fun h1 => ?_, fun h1 => ?_⟩)
  · refine Tri.seq (Tri.reg hT ?_)
    refine .inl (.inl ⟨_, fun _ => rfl, f55_spec _ (by omega), ?_⟩)
    refine Tri.ret ?_
    exact ⟨congrArg insAV (insR_nil (l := l) (pol := pol) h1).symm, trivial⟩
  · refine Tri.seq (Tri.reg hT ?_)
    refine ⟨_, [], trivial, rfl, rfl, fun h => ⟨rfl, rfl, rfl⟩, ?_⟩
    refine ⟨_, [], trivial, rfl, rfl, fun h => ⟨h, rfl, rfl, rfl⟩, ?_⟩
    refine ⟨_, [], trivial, rfl, rfl, fun h => ⟨h, rfl, rfl, rfl⟩, ?_⟩
    refine ⟨⟨fun _ => trivial, fun hc => (gn hc)⟩, ?_⟩
    refine ⟨_, [], trivial, rfl, rfl, fun h => ⟨rfl, rfl, rfl⟩, ?_⟩
    refine ⟨_, [], trivial, rfl, rfl, fun h => ⟨h, rfl, rfl, rfl⟩, ?_⟩
    refine ⟨⟨fun _ => trivial, fun hc => (gn hc)⟩, ?_⟩
    refine ⟨_, [], trivial, rfl, rfl, fun h => ⟨rfl, rfl, rfl⟩, ?_⟩
    refine ⟨_, [], trivial, rfl, rfl, fun h => ⟨h, rfl, rfl, rfl⟩, ?_⟩
    refine ⟨⟨fun _ => trivial, fun hc => (gn hc)⟩, ?_⟩
    refine (Tri.cond ⟨fun h2 => ?_, fun h2 => ?_⟩)
    · refine Tri.seq (Tri.reg hT ?_)
      refine Tri.le ⟨203, 0, 0, [(6, .list pT []), (7, .int .i64 0), (8, .int .i64 4)], [], []⟩ (Le.weakV rfl rfl rfl rfl ⟨rfl, rfl, rfl, trivial⟩ trivial) ?_
      refine Tri.ret ?_
      exact ⟨congrArg insAV (insR_range (l := l) h1 h2).symm, trivial⟩
    · refine (Tri.skip ?_)
      refine Tri.seq (Tri.drw hT hm 5 (by kernel_rfl) ?_)
      refine .inl ⟨_, fun _ => rfl, f56_spec p (inB_p h2 hp), ?_⟩
      refine ⟨by kernel_rfl, ?_⟩
      refine Tri.seq (Tri.reg hT ?_)
      refine Tri.seq (Tri.reg hT ?_)
      refine Tri.seq (Tri.reg hT ?_)
      refine Tri.seq (Tri.label ?_)
      refine Tri.join (InvR (newP p) (insLoop pol (newP p) l ⟨[], 0, 0, pa p⟩)) (SR l pol (newP p) (insLoop pol (newP p) l ⟨[], 0, 0, pa p⟩)) ?_ fun hp1 => ?_
      · refine Tri.le ⟨203, 0, 40, [(0, .list pT l), (2, .int .i64 pol), (4, .loc 0 0), (9, .own 39 0), (10, .int .i64 0), (11, .int .i64 0), (12, .int .i64 (pa p))], [(0, .box [.int .i64 (pa p), .str (pd p), .int .i64 (pa p), .int .i64 (endP p)]), (39, .arr pT [])], []⟩ (Le.trans (Le.own 9 pT rfl) (Le.weak rfl rfl rfl rfl ⟨rfl, rfl, rfl, rfl, rfl, rfl, rfl, trivial⟩ ⟨rfl, rfl, trivial⟩)) ?_
        refine Tri.seq (Tri.reg hT ?_)
        refine (Tri.block ?_)
        refine (Tri.loop (ι := Nat × Ins) (fun x => SI l pol (newP p) x.1 x.2) (fun x => InvI l pol (newP p) x.1 x.2) (fun x => l.length - x.1) ((0, ⟨[], 0, 0, pa p⟩)) ?_ ?_ ?_)
        · have hn := newOk h1 h2 hp; exact ⟨Nat.zero_le _, rfl, fun x hx => by simp at hx, by simp, Int.le_refl _, by rw [hn.pte]; exact Int.le_of_lt hn.lt, Int.le_refl _, Int.le_refl _, by show (0 : Int) ≤ pa p - pa p; omega, .inl rfl⟩
        · exact Le.weak rfl rfl rfl rfl ⟨rfl, rfl, rfl, rfl, rfl, rfl, rfl, rfl, rfl, rfl, trivial⟩ ⟨rfl, rfl, trivial⟩
        · intro ⟨i, s⟩ hi; have hn := newOk h1 h2 hp; change InvI l pol (newP p) i s at hi; change Tri P _ _ (SI l pol (newP p) i s)
          refine Tri.seq (Tri.reg hT ?_)
          refine Tri.seq (Tri.cond ⟨fun h3 => ?_, fun h3 => ?_⟩)
          · refine (Tri.skip ?_)
            refine Tri.seq (Tri.block ?_)
            refine Tri.seq (Tri.reg hT ?_)
            refine ⟨by have := of_decide_eq_true h3; omega, ?_⟩
            refine Tri.seq ?_
            refine Tri.seq (Tri.drw hT hm 5 (by kernel_rfl) ?_)
            refine .inl ⟨_, fun _ => rfl, f56_spec (l.getD i (Ty.dflt pT)) (vInB hv (i_lt h3)), ?_⟩
            refine ⟨by kernel_rfl, ?_⟩
            refine (Tri.cond ⟨fun h4 => ?_, fun h4 => ?_⟩)
            · refine Tri.seq (Tri.reg hT ?_)
              refine .inr ⟨_, _, _, _, _, rfl, Nat.zero_le _, f57_spec s.out (l.getD i (Ty.dflt pT)) hi.inb (vInB hv (i_lt h3)) (by have := hi.len; have := hi.le; omega) 39, ?_⟩
              refine Tri.exit ?_
              refine (Tri.reg hT ?_)
              have h3' := i_lt h3; exact ⟨(i + 1, ⟨joinL s.out (l.getD i (Ty.dflt pT)), s.conf, s.cov, s.at_⟩), inv_skip hv hi h3' (of_decide_eq_true h4), by show l.length - (i + 1) < l.length - i; omega, Le.weak rfl rfl rfl rfl ⟨rfl, rfl, rfl, rfl, rfl, rfl, rfl, rfl, rfl, iv1 (by omega), trivial⟩ ⟨rfl, rfl, trivial⟩⟩
            · refine (Tri.skip ?_)
              refine Tri.seq ?_
              refine Tri.seq (Tri.reg hT ?_)
              refine (Tri.cond ⟨fun h5 => ?_, fun h5 => ?_⟩)
              · refine Tri.join (True) (⟨203, 0, 40, [(0, .list pT l), (2, .int .i64 pol), (4, .loc 0 0), (9, .own 39 (insFill (newP p) s).out.length), (10, .int .i64 s.conf), (11, .int .i64 s.cov), (12, .int .i64 (insFill (newP p) s).at_), (13, .int .i64 (i : Int))], [(0, .box [.int .i64 (pa p), .str (pd p), .int .i64 (pa p), .int .i64 (endP p)]), (39, .arr pT (insFill (newP p) s).out)], []⟩) ?_ fun hp4 => ?_
                · refine Tri.seq (Tri.reg hT ?_)
                  refine (Tri.cond ⟨fun h6 => ?_, fun h6 => ?_⟩)
                  · refine Tri.seq (Tri.reg hT ?_)
                    refine .inl (.inl ⟨_, fun _ => rfl, f58_spec (newP p) s.at_ (endP p) hn.inb hi.lo hi.hi (Int.le_refl _), ?_⟩)
                    refine .inr ⟨_, _, _, _, _, rfl, Nat.zero_le _, f57_spec s.out (partP (newP p) s.at_ (endP p)) hi.inb (partP_inB hn.inb hi.lo hi.hi (Int.le_refl _)).1 (by have := hi.len; have := hi.le; omega) 39, ?_⟩
                    refine (Tri.reg hT ?_)
                    have e4 : insFill (newP p) s = ⟨joinL s.out (partP (newP p) s.at_ (pt (newP p))), s.conf, s.cov, pt (newP p)⟩ := if_pos (of_decide_eq_true h6); exact ⟨trivial, Le.weak rfl rfl rfl rfl ⟨rfl, rfl, rfl, congrArg (fun z : Ins => AV.own 39 z.out.length) e4.symm, rfl, rfl, congrArg (fun z : Ins => AV.int .i64 z.at_) e4.symm, rfl, trivial⟩ ⟨rfl, congrArg (fun z : Ins => some (Chunk.arr pT z.out)) e4.symm, trivial⟩⟩
                  · refine (Tri.skip ?_)
                    have e4 : insFill (newP p) s = s := if_neg (of_decide_eq_false h6); exact ⟨trivial, Le.weak rfl rfl rfl rfl ⟨rfl, rfl, rfl, congrArg (fun z : Ins => AV.own 39 z.out.length) e4.symm, rfl, rfl, congrArg (fun z : Ins => AV.int .i64 z.at_) e4.symm, rfl, trivial⟩ ⟨rfl, congrArg (fun z : Ins => some (Chunk.arr pT z.out)) e4.symm, trivial⟩⟩
                · refine Tri.seq ?_
                  refine Tri.seq (Tri.reg hT ?_)
                  refine ⟨by have := hi.le; omega, ?_⟩
                  refine (Tri.block ?_)
                  refine (Tri.loop (ι := Nat) (fun j => ⟨203, 0, 40, [(0, .list pT l), (2, .int .i64 pol), (4, .loc 0 0), (9, .own 39 (restOut l (newP p) s i j).length), (10, .int .i64 s.conf), (11, .int .i64 s.cov), (12, .int .i64 (insFill (newP p) s).at_), (87, .list pT (l.drop i)), (88, .int .i64 (l.drop i).length), (89, .int .i64 (j : Int))], [(0, .box [.int .i64 (pa p), .str (pd p), .int .i64 (pa p), .int .i64 (endP p)]), (39, .arr pT (restOut l (newP p) s i j))], []⟩) (fun j => j ≤ (l.drop i).length ∧ (∀ x ∈ restOut l (newP p) s i j, InB x) ∧ (restOut l (newP p) s i j).length ≤ 5 * i + 1 + j) (fun j => (l.drop i).length - j) (0) ?_ ?_ ?_)
                  · have fr := fill_of hn.inb hn.pte hi.inb hi.len hi.lo hi.hi; exact ⟨Nat.zero_le _, by simpa [restOut] using fr.inb, by have := fr.len; simpa [restOut] using this⟩
                  · exact Le.weak rfl rfl rfl rfl ⟨rfl, rfl, rfl, rfl, rfl, rfl, rfl, congrArg (AV.list pT) (by rw [toNat_cast, toNat_cast, List.take_length]), congrArg (AV.int .i64) (by rw [toNat_cast, toNat_cast, List.take_length]), rfl, trivial⟩ ⟨rfl, rfl, trivial⟩
                  · intro j hj
                    refine Tri.seq (Tri.reg hT ?_)
                    refine Tri.seq (Tri.cond ⟨fun h7 => ?_, fun h7 => ?_⟩)
                    · refine (Tri.skip ?_)
                      refine Tri.seq (Tri.block ?_)
                      refine Tri.seq (Tri.reg hT ?_)
                      refine ⟨by have := of_decide_eq_true h7; omega, ?_⟩
                      refine (Tri.reg hT ?_)
                      refine .inr ⟨_, _, _, _, _, rfl, Nat.zero_le _, f57_spec (restOut l (newP p) s i j) ((l.drop i).getD j (Ty.dflt pT)) hj.2.1 (drop_inB hv (i_lt h7)) (by have := hj.2.2; have := hj.1; have hd : (l.drop i).length = l.length - i := List.length_drop ..; have := hi.le; omega) 39, ?_⟩
                      refine (Tri.reg hT ?_)
                      have h7' := i_lt h7; have e := rest_next l (newP p) s i j h7'; have := joinL_len (restOut l (newP p) s i j) ((l.drop i).getD j (Ty.dflt pT)); exact ⟨j + 1, ⟨by omega, e ▸ joinL_inB hj.2.1 (drop_inB hv h7'), by rw [e]; have := hj.2.2; omega⟩, by omega, Le.weak rfl rfl rfl rfl ⟨rfl, rfl, rfl, congrArg (AV.own 39) (congrArg List.length e.symm), rfl, rfl, rfl, rfl, rfl, iv1 (by have hd : (l.drop i).length = l.length - i := List.length_drop ..; omega), trivial⟩ ⟨rfl, congrArg (fun z : List Pc => some (Chunk.arr pT z)) e.symm, trivial⟩⟩
                    · refine Tri.exit ?_
                      refine Tri.exit ?_
                      have r := inv_B hl hn hi (i_lt h3) (of_decide_eq_false h4) (of_decide_eq_true h5) (by have := of_decide_eq_false h7; omega) hj.2.1 hj.2.2 hj.1; have e1 : insLoop pol (newP p) l ⟨[], 0, 0, pa p⟩ = _ := r.1; refine ⟨by rw [e1]; exact r.2, ?_⟩; rw [e1]; exact Le.weak rfl rfl rfl rfl ⟨rfl, rfl, rfl, rfl, rfl, rfl, rfl, trivial⟩ ⟨rfl, rfl, trivial⟩
              · refine (Tri.skip ?_)
                have m := meet_of hv hn hi (i_lt h3) (of_decide_eq_false h4) (of_decide_eq_false h5); have mfe : frP (newP p) (l.getD i (Ty.dflt pT)) ≤ endP (l.getD i (Ty.dflt pT)) := Int.le_trans (Int.le_of_lt m.frto) m.too; have mfq : frP (newP p) (l.getD i (Ty.dflt pT)) ≤ endP (newP p) := Int.le_trans (Int.le_of_lt m.frto) m.toq; have hlen := hi.len; have hle := hi.le; have sm := small_of hn hi m
                refine Tri.seq (Tri.drw hT hm 11 (by kernel_rfl) ?_)
                refine .inl ⟨_, fun _ => rfl, f56_spec (l.getD i (Ty.dflt pT)) (vInB hv (i_lt h3)), ?_⟩
                refine ⟨by kernel_rfl, ?_⟩
                refine Tri.join ((∀ x ∈ ins1 (newP p) (l.getD i (Ty.dflt pT)) s.out, InB x) ∧ (ins1 (newP p) (l.getD i (Ty.dflt pT)) s.out).length ≤ 5 * i + 1) (SM l pol (newP p) (l.getD i (Ty.dflt pT)) i (ins1 (newP p) (l.getD i (Ty.dflt pT)) s.out) s.conf s.cov s.at_) ?_ fun hp6 => ?_
                · refine Tri.seq (Tri.reg hT ?_)
                  refine (Tri.cond ⟨fun h8 => ?_, fun h8 => ?_⟩)
                  · refine (Tri.reg hT ?_)
                    refine .inl (.inl ⟨_, fun _ => rfl, f58_spec (l.getD i (Ty.dflt pT)) (pa (l.getD i (Ty.dflt pT))) (frP (newP p) (l.getD i (Ty.dflt pT))) m.oin (Int.le_refl _) m.ofr mfe, ?_⟩)
                    refine .inr ⟨_, _, _, _, _, rfl, Nat.zero_le _, f57_spec s.out (partP (l.getD i (Ty.dflt pT)) (pa (l.getD i (Ty.dflt pT))) (frP (newP p) (l.getD i (Ty.dflt pT)))) hi.inb (partP_inB m.oin (Int.le_refl _) m.ofr mfe).1 (by omega) 39, ?_⟩
                    have e6 : ins1 (newP p) (l.getD i (Ty.dflt pT)) s.out = joinL s.out (partP (l.getD i (Ty.dflt pT)) (pa (l.getD i (Ty.dflt pT))) (frP (newP p) (l.getD i (Ty.dflt pT)))) := if_pos (of_decide_eq_true h8); have := joinL_len s.out (partP (l.getD i (Ty.dflt pT)) (pa (l.getD i (Ty.dflt pT))) (frP (newP p) (l.getD i (Ty.dflt pT)))); exact ⟨⟨e6 ▸ joinL_inB hi.inb (partP_inB m.oin (Int.le_refl _) m.ofr mfe).1, by rw [e6]; omega⟩, Le.weak rfl rfl rfl rfl ⟨rfl, rfl, rfl, congrArg (AV.own 39) (congrArg List.length e6.symm), rfl, rfl, rfl, rfl, rfl, rfl, rfl, rfl, rfl, trivial⟩ ⟨rfl, congrArg (fun x : List Pc => some (Chunk.arr pT x)) e6.symm, rfl, trivial⟩⟩
                  · refine (Tri.skip ?_)
                    have e6 : ins1 (newP p) (l.getD i (Ty.dflt pT)) s.out = s.out := if_neg (of_decide_eq_false h8); exact ⟨⟨e6.symm ▸ hi.inb, by rw [e6]; omega⟩, Le.weak rfl rfl rfl rfl ⟨rfl, rfl, rfl, congrArg (AV.own 39) (congrArg List.length e6.symm), rfl, rfl, rfl, rfl, rfl, rfl, rfl, rfl, rfl, trivial⟩ ⟨rfl, congrArg (fun x : List Pc => some (Chunk.arr pT x)) e6.symm, rfl, trivial⟩⟩
                · refine Tri.join ((∀ x ∈ ins2 (newP p) (l.getD i (Ty.dflt pT)) s.at_ (ins1 (newP p) (l.getD i (Ty.dflt pT)) s.out), InB x) ∧ (ins2 (newP p) (l.getD i (Ty.dflt pT)) s.at_ (ins1 (newP p) (l.getD i (Ty.dflt pT)) s.out)).length ≤ 5 * i + 2) (SM l pol (newP p) (l.getD i (Ty.dflt pT)) i (ins2 (newP p) (l.getD i (Ty.dflt pT)) s.at_ (ins1 (newP p) (l.getD i (Ty.dflt pT)) s.out)) s.conf s.cov s.at_) ?_ fun hp7 => ?_
                  · refine Tri.seq (Tri.reg hT ?_)
                    refine (Tri.cond ⟨fun h9 => ?_, fun h9 => ?_⟩)
                    · refine (Tri.reg hT ?_)
                      refine .inl (.inl ⟨_, fun _ => rfl, f58_spec (newP p) s.at_ (frP (newP p) (l.getD i (Ty.dflt pT))) m.qin hi.lo m.afr mfq, ?_⟩)
                      refine .inr ⟨_, _, _, _, _, rfl, Nat.zero_le _, f57_spec (ins1 (newP p) (l.getD i (Ty.dflt pT)) s.out) (partP (newP p) s.at_ (frP (newP p) (l.getD i (Ty.dflt pT)))) hp6.1 (partP_inB m.qin hi.lo m.afr mfq).1 (by have := hp6.2; omega) 39, ?_⟩
                      have e7 : ins2 (newP p) (l.getD i (Ty.dflt pT)) s.at_ (ins1 (newP p) (l.getD i (Ty.dflt pT)) s.out) = joinL (ins1 (newP p) (l.getD i (Ty.dflt pT)) s.out) (partP (newP p) s.at_ (frP (newP p) (l.getD i (Ty.dflt pT)))) := if_pos (of_decide_eq_true h9); have := joinL_len (ins1 (newP p) (l.getD i (Ty.dflt pT)) s.out) (partP (newP p) s.at_ (frP (newP p) (l.getD i (Ty.dflt pT)))); have := hp6.2; exact ⟨⟨e7 ▸ joinL_inB hp6.1 (partP_inB m.qin hi.lo m.afr mfq).1, by rw [e7]; omega⟩, Le.weak rfl rfl rfl rfl ⟨rfl, rfl, rfl, congrArg (AV.own 39) (congrArg List.length e7.symm), rfl, rfl, rfl, rfl, rfl, rfl, rfl, rfl, rfl, trivial⟩ ⟨rfl, congrArg (fun x : List Pc => some (Chunk.arr pT x)) e7.symm, rfl, trivial⟩⟩
                    · refine (Tri.skip ?_)
                      have e7 : ins2 (newP p) (l.getD i (Ty.dflt pT)) s.at_ (ins1 (newP p) (l.getD i (Ty.dflt pT)) s.out) = ins1 (newP p) (l.getD i (Ty.dflt pT)) s.out := if_neg (of_decide_eq_false h9); have := hp6.2; exact ⟨⟨e7.symm ▸ hp6.1, by rw [e7]; omega⟩, Le.weak rfl rfl rfl rfl ⟨rfl, rfl, rfl, congrArg (AV.own 39) (congrArg List.length e7.symm), rfl, rfl, rfl, rfl, rfl, rfl, rfl, rfl, rfl, trivial⟩ ⟨rfl, congrArg (fun x : List Pc => some (Chunk.arr pT x)) e7.symm, rfl, trivial⟩⟩
                  · refine Tri.seq (Tri.drw hT hm 11 (by kernel_rfl) ?_)
                    refine .inl ⟨_, fun _ => rfl, f58_spec (l.getD i (Ty.dflt pT)) (frP (newP p) (l.getD i (Ty.dflt pT))) (toP (newP p) (l.getD i (Ty.dflt pT))) m.oin m.ofr (Int.le_of_lt m.frto) m.too, ?_⟩
                    refine .inl ⟨_, fun _ => rfl, f58_spec (newP p) (frP (newP p) (l.getD i (Ty.dflt pT))) (toP (newP p) (l.getD i (Ty.dflt pT))) m.qin m.qfr (Int.le_of_lt m.frto) m.toq, ?_⟩
                    refine ⟨by kernel_rfl, ?_⟩
                    refine Tri.seq (Tri.reg hT ?_)
                    refine .inl (.inl ⟨_, fun _ => rfl, f59_spec (pd (partP (l.getD i (Ty.dflt pT)) (frP (newP p) (l.getD i (Ty.dflt pT))) (toP (newP p) (l.getD i (Ty.dflt pT))))) (pd (partP (newP p) (frP (newP p) (l.getD i (Ty.dflt pT))) (toP (newP p) (l.getD i (Ty.dflt pT))))) (by have a := part_len m.oin m.ofr (Int.le_of_lt m.frto) m.too; have b := part_len m.qin m.qfr (Int.le_of_lt m.frto) m.toq; omega) (by have a := part_len m.oin m.ofr (Int.le_of_lt m.frto) m.too; have h2 : endP (newP p) = pa (newP p) + (pd (newP p)).length := rfl; have := hn.len; have := m.toq; have := m.qfr; omega), ?_⟩)
                    refine Tri.seq (Tri.reg hT ?_)
                    refine Tri.join ((∀ x ∈ ins3 pol (newP p) (l.getD i (Ty.dflt pT)) (ins2 (newP p) (l.getD i (Ty.dflt pT)) s.at_ (ins1 (newP p) (l.getD i (Ty.dflt pT)) s.out)), InB x) ∧ (ins3 pol (newP p) (l.getD i (Ty.dflt pT)) (ins2 (newP p) (l.getD i (Ty.dflt pT)) s.at_ (ins1 (newP p) (l.getD i (Ty.dflt pT)) s.out))).length ≤ 5 * i + 3) (SM l pol (newP p) (l.getD i (Ty.dflt pT)) i (ins3 pol (newP p) (l.getD i (Ty.dflt pT)) (ins2 (newP p) (l.getD i (Ty.dflt pT)) s.at_ (ins1 (newP p) (l.getD i (Ty.dflt pT)) s.out))) (s.conf + insCut (newP p) (l.getD i (Ty.dflt pT))) (s.cov + (toP (newP p) (l.getD i (Ty.dflt pT)) - frP (newP p) (l.getD i (Ty.dflt pT)))) s.at_) ?_ fun hp8 => ?_
                    · refine Tri.seq (Tri.reg hT ?_)
                      refine .inl (.inl ⟨_, fun _ => rfl, f60_spec pol (l.getD i (Ty.dflt pT)) (newP p), ?_⟩)
                      refine (Tri.cond ⟨fun h10 => ?_, fun h10 => ?_⟩)
                      · refine (Tri.reg hT ?_)
                        refine .inr ⟨_, _, _, _, _, rfl, Nat.zero_le _, f57_spec (ins2 (newP p) (l.getD i (Ty.dflt pT)) s.at_ (ins1 (newP p) (l.getD i (Ty.dflt pT)) s.out)) (partP (newP p) (frP (newP p) (l.getD i (Ty.dflt pT))) (toP (newP p) (l.getD i (Ty.dflt pT)))) hp7.1 (partP_inB m.qin m.qfr (Int.le_of_lt m.frto) m.toq).1 (by have := hp7.2; omega) 39, ?_⟩
                        have e8 : ins3 pol (newP p) (l.getD i (Ty.dflt pT)) (ins2 (newP p) (l.getD i (Ty.dflt pT)) s.at_ (ins1 (newP p) (l.getD i (Ty.dflt pT)) s.out)) = joinL (ins2 (newP p) (l.getD i (Ty.dflt pT)) s.at_ (ins1 (newP p) (l.getD i (Ty.dflt pT)) s.out)) (partP (newP p) (frP (newP p) (l.getD i (Ty.dflt pT))) (toP (newP p) (l.getD i (Ty.dflt pT)))) := (by rw [ins3, if_pos h10]); have := joinL_len (ins2 (newP p) (l.getD i (Ty.dflt pT)) s.at_ (ins1 (newP p) (l.getD i (Ty.dflt pT)) s.out)) (partP (newP p) (frP (newP p) (l.getD i (Ty.dflt pT))) (toP (newP p) (l.getD i (Ty.dflt pT)))); have := hp7.2; exact ⟨⟨e8 ▸ joinL_inB hp7.1 (partP_inB m.qin m.qfr (Int.le_of_lt m.frto) m.toq).1, by rw [e8]; omega⟩, Le.weak rfl rfl rfl rfl ⟨rfl, rfl, rfl, congrArg (AV.own 39) (congrArg List.length e8.symm), congrArg (AV.int .i64) sm.conf, congrArg (AV.int .i64) sm.cov, rfl, rfl, rfl, rfl, rfl, rfl, rfl, trivial⟩ ⟨rfl, congrArg (fun x : List Pc => some (Chunk.arr pT x)) e8.symm, rfl, trivial⟩⟩
                      · refine (Tri.reg hT ?_)
                        refine .inr ⟨_, _, _, _, _, rfl, Nat.zero_le _, f57_spec (ins2 (newP p) (l.getD i (Ty.dflt pT)) s.at_ (ins1 (newP p) (l.getD i (Ty.dflt pT)) s.out)) (partP (l.getD i (Ty.dflt pT)) (frP (newP p) (l.getD i (Ty.dflt pT))) (toP (newP p) (l.getD i (Ty.dflt pT)))) hp7.1 (partP_inB m.oin m.ofr (Int.le_of_lt m.frto) m.too).1 (by have := hp7.2; omega) 39, ?_⟩
                        have e8 : ins3 pol (newP p) (l.getD i (Ty.dflt pT)) (ins2 (newP p) (l.getD i (Ty.dflt pT)) s.at_ (ins1 (newP p) (l.getD i (Ty.dflt pT)) s.out)) = joinL (ins2 (newP p) (l.getD i (Ty.dflt pT)) s.at_ (ins1 (newP p) (l.getD i (Ty.dflt pT)) s.out)) (partP (l.getD i (Ty.dflt pT)) (frP (newP p) (l.getD i (Ty.dflt pT))) (toP (newP p) (l.getD i (Ty.dflt pT)))) := (by rw [ins3, if_neg (by rw [h10]; simp)]); have := joinL_len (ins2 (newP p) (l.getD i (Ty.dflt pT)) s.at_ (ins1 (newP p) (l.getD i (Ty.dflt pT)) s.out)) (partP (l.getD i (Ty.dflt pT)) (frP (newP p) (l.getD i (Ty.dflt pT))) (toP (newP p) (l.getD i (Ty.dflt pT)))); have := hp7.2; exact ⟨⟨e8 ▸ joinL_inB hp7.1 (partP_inB m.oin m.ofr (Int.le_of_lt m.frto) m.too).1, by rw [e8]; omega⟩, Le.weak rfl rfl rfl rfl ⟨rfl, rfl, rfl, congrArg (AV.own 39) (congrArg List.length e8.symm), congrArg (AV.int .i64) sm.conf, congrArg (AV.int .i64) sm.cov, rfl, rfl, rfl, rfl, rfl, rfl, rfl, trivial⟩ ⟨rfl, congrArg (fun x : List Pc => some (Chunk.arr pT x)) e8.symm, rfl, trivial⟩⟩
                    · refine Tri.join ((∀ x ∈ (insMid pol (newP p) (l.getD i (Ty.dflt pT)) s).out, InB x) ∧ (insMid pol (newP p) (l.getD i (Ty.dflt pT)) s).out.length ≤ 5 * i + 4) (SM l pol (newP p) (l.getD i (Ty.dflt pT)) i (insMid pol (newP p) (l.getD i (Ty.dflt pT)) s).out (s.conf + insCut (newP p) (l.getD i (Ty.dflt pT))) (s.cov + (toP (newP p) (l.getD i (Ty.dflt pT)) - frP (newP p) (l.getD i (Ty.dflt pT)))) s.at_) ?_ fun hp9 => ?_
                      · refine Tri.seq (Tri.reg hT ?_)
                        refine .inl (.inl ⟨_, fun _ => rfl, f56_spec (l.getD i (Ty.dflt pT)) (vInB hv (i_lt h3)), ?_⟩)
                        refine (Tri.cond ⟨fun h11 => ?_, fun h11 => ?_⟩)
                        · refine (Tri.drw hT hm 6 (by kernel_rfl) ?_)
                          refine .inl ⟨_, fun _ => rfl, f56_spec (l.getD i (Ty.dflt pT)) (vInB hv (i_lt h3)), ?_⟩
                          refine .inl ⟨_, fun _ => rfl, f58_spec (l.getD i (Ty.dflt pT)) (toP (newP p) (l.getD i (Ty.dflt pT))) (endP (l.getD i (Ty.dflt pT))) m.oin (Int.le_trans m.ofr (Int.le_of_lt m.frto)) m.too (Int.le_refl _), ?_⟩
                          refine ⟨by kernel_rfl, ?_⟩
                          refine .inr ⟨_, _, _, _, _, rfl, Nat.zero_le _, f57_spec (ins3 pol (newP p) (l.getD i (Ty.dflt pT)) (ins2 (newP p) (l.getD i (Ty.dflt pT)) s.at_ (ins1 (newP p) (l.getD i (Ty.dflt pT)) s.out))) (partP (l.getD i (Ty.dflt pT)) (toP (newP p) (l.getD i (Ty.dflt pT))) (endP (l.getD i (Ty.dflt pT)))) hp8.1 (partP_inB m.oin (Int.le_trans m.ofr (Int.le_of_lt m.frto)) m.too (Int.le_refl _)).1 (by have := hp8.2; omega) 39, ?_⟩
                          have e9 : (insMid pol (newP p) (l.getD i (Ty.dflt pT)) s).out = joinL (ins3 pol (newP p) (l.getD i (Ty.dflt pT)) (ins2 (newP p) (l.getD i (Ty.dflt pT)) s.at_ (ins1 (newP p) (l.getD i (Ty.dflt pT)) s.out))) (partP (l.getD i (Ty.dflt pT)) (toP (newP p) (l.getD i (Ty.dflt pT))) (endP (l.getD i (Ty.dflt pT)))) := if_pos (of_decide_eq_true h11); have := joinL_len (ins3 pol (newP p) (l.getD i (Ty.dflt pT)) (ins2 (newP p) (l.getD i (Ty.dflt pT)) s.at_ (ins1 (newP p) (l.getD i (Ty.dflt pT)) s.out))) (partP (l.getD i (Ty.dflt pT)) (toP (newP p) (l.getD i (Ty.dflt pT))) (endP (l.getD i (Ty.dflt pT)))); have := hp8.2; exact ⟨⟨e9 ▸ joinL_inB hp8.1 (partP_inB m.oin (Int.le_trans m.ofr (Int.le_of_lt m.frto)) m.too (Int.le_refl _)).1, by rw [e9]; omega⟩, Le.weak rfl rfl rfl rfl ⟨rfl, rfl, rfl, congrArg (AV.own 39) (congrArg List.length e9.symm), rfl, rfl, rfl, rfl, rfl, rfl, rfl, rfl, rfl, trivial⟩ ⟨rfl, congrArg (fun x : List Pc => some (Chunk.arr pT x)) e9.symm, rfl, trivial⟩⟩
                        · refine (Tri.skip ?_)
                          have e9 : (insMid pol (newP p) (l.getD i (Ty.dflt pT)) s).out = ins3 pol (newP p) (l.getD i (Ty.dflt pT)) (ins2 (newP p) (l.getD i (Ty.dflt pT)) s.at_ (ins1 (newP p) (l.getD i (Ty.dflt pT)) s.out)) := if_neg (of_decide_eq_false h11); have := hp8.2; exact ⟨⟨e9.symm ▸ hp8.1, by rw [e9]; omega⟩, Le.weak rfl rfl rfl rfl ⟨rfl, rfl, rfl, congrArg (AV.own 39) (congrArg List.length e9.symm), rfl, rfl, rfl, rfl, rfl, rfl, rfl, rfl, rfl, trivial⟩ ⟨rfl, congrArg (fun x : List Pc => some (Chunk.arr pT x)) e9.symm, rfl, trivial⟩⟩
                      · refine (Tri.reg hT ?_)
                        refine (Tri.reg hT ?_)
                        have h3' := i_lt h3; exact ⟨(i + 1, insMid pol (newP p) (l.getD i (Ty.dflt pT)) s), inv_mid hi h3' (of_decide_eq_false h4) (of_decide_eq_false h5) m sm hp9, by show l.length - (i + 1) < l.length - i; omega, Le.weak rfl rfl rfl rfl ⟨rfl, rfl, rfl, rfl, rfl, rfl, rfl, rfl, rfl, iv1 (by omega), trivial⟩ ⟨rfl, rfl, trivial⟩⟩
          · refine Tri.exit ?_
            have r := inv_R hl hi (by have := of_decide_eq_false h3; omega); have e1 : insLoop pol (newP p) l ⟨[], 0, 0, pa p⟩ = _ := r.1; refine ⟨by rw [e1]; exact r.2, ?_⟩; rw [e1]; exact Le.weak rfl rfl rfl rfl ⟨rfl, rfl, rfl, rfl, rfl, rfl, rfl, trivial⟩ ⟨rfl, rfl, trivial⟩
      · refine Tri.join ((insAll pol (newP p) l).out.length ≤ 8589934593) (SF l pol (newP p) (insAll pol (newP p) l)) ?_ fun hp10 => ?_
        · refine Tri.seq (Tri.reg hT ?_)
          refine (Tri.cond ⟨fun h12 => ?_, fun h12 => ?_⟩)
          · refine (Tri.reg hT ?_)
            refine .inl (.inl ⟨_, fun _ => rfl, f58_spec (newP p) (insLoop pol (newP p) l ⟨[], 0, 0, pa p⟩).at_ (pt (newP p)) (newOk h1 h2 hp).inb hp1.lo hp1.hi (Int.le_of_eq (newOk h1 h2 hp).pte), ?_⟩)
            refine .inr ⟨_, _, _, _, _, rfl, Nat.zero_le _, f57_spec (insLoop pol (newP p) l ⟨[], 0, 0, pa p⟩).out (partP (newP p) (insLoop pol (newP p) l ⟨[], 0, 0, pa p⟩).at_ (pt (newP p))) hp1.inb (partP_inB (newOk h1 h2 hp).inb hp1.lo hp1.hi (Int.le_of_eq (newOk h1 h2 hp).pte)).1 (by have := hp1.len; omega) 39, ?_⟩
            have e10 : insAll pol (newP p) l = ⟨joinL (insLoop pol (newP p) l ⟨[], 0, 0, pa p⟩).out (partP (newP p) (insLoop pol (newP p) l ⟨[], 0, 0, pa p⟩).at_ (pt (newP p))), (insLoop pol (newP p) l ⟨[], 0, 0, pa p⟩).conf, (insLoop pol (newP p) l ⟨[], 0, 0, pa p⟩).cov, pt (newP p)⟩ := if_pos (of_decide_eq_true h12); have := joinL_len (insLoop pol (newP p) l ⟨[], 0, 0, pa p⟩).out (partP (newP p) (insLoop pol (newP p) l ⟨[], 0, 0, pa p⟩).at_ (pt (newP p))); have := hp1.len; refine ⟨by rw [e10]; show (joinL _ _).length ≤ _; omega, ?_⟩; rw [e10]; exact Le.weak rfl rfl rfl rfl ⟨rfl, rfl, rfl, rfl, rfl, rfl, trivial⟩ ⟨rfl, rfl, trivial⟩
          · refine (Tri.skip ?_)
            have e10 : insAll pol (newP p) l = (insLoop pol (newP p) l ⟨[], 0, 0, pa p⟩) := if_neg (of_decide_eq_false h12); have := hp1.len; refine ⟨by rw [e10]; omega, ?_⟩; rw [e10]; exact Le.weak rfl rfl rfl rfl ⟨rfl, rfl, rfl, rfl, rfl, rfl, trivial⟩ ⟨rfl, rfl, trivial⟩
        · refine Tri.seq ?_
          refine Tri.seq (Tri.reg hT ?_)
          refine ⟨_, [], trivial, rfl, rfl, fun h => ⟨rfl, rfl, rfl⟩, ?_⟩
          refine ⟨_, [], trivial, rfl, rfl, fun h => ⟨h, rfl, rfl, rfl⟩, ?_⟩
          refine ⟨⟨fun hc => hc, fun _ => trivial⟩, ?_⟩
          refine (Tri.cond ⟨fun h13 => ?_, fun h13 => ?_⟩)
          · refine Tri.seq ?_
            refine Tri.seq (Tri.reg hT ?_)
            refine ⟨_, [], trivial, rfl, rfl, fun h => ⟨rfl, rfl, rfl⟩, ?_⟩
            refine ⟨_, [], trivial, rfl, rfl, fun h => ⟨h, rfl, rfl, rfl⟩, ?_⟩
            refine ⟨⟨fun hc => hc, fun _ => trivial⟩, ?_⟩
            refine (Tri.cond ⟨fun h14 => ?_, fun h14 => ?_⟩)
            · refine Tri.seq (Tri.reg hT ?_)
              refine .inl (.inl ⟨_, fun _ => rfl, f55_spec _ (by omega), ?_⟩)
              refine Tri.ret ?_
              exact ⟨congrArg insAV ((insR_go (l := l) h1 h2).trans ((if_pos (gand_t h13)).trans (if_pos (gand_t h14)))).symm, trivial⟩
            · refine (Tri.skip ?_)
              refine Tri.seq (Tri.reg hT ?_)
              refine Tri.le ⟨203, 0, 0, [(6, .list pT []), (7, .int .i64 0), (8, .int .i64 17)], [], []⟩ (Le.weakV rfl rfl rfl rfl ⟨rfl, rfl, rfl, trivial⟩ trivial) ?_
              refine Tri.ret ?_
              exact ⟨congrArg insAV ((insR_go (l := l) h1 h2).trans ((if_pos (gand_t h13)).trans (if_neg (gand_f h14)))).symm, trivial⟩
          · refine (Tri.skip ?_)
            refine Tri.seq ?_
            refine Tri.seq (Tri.reg hT ?_)
            refine (Tri.cond ⟨fun h15 => ?_, fun h15 => ?_⟩)
            · refine Tri.seq (Tri.reg hT ?_)
              refine Tri.le ⟨203, 0, 0, [(6, .list pT []), (7, .int .i64 0), (8, .int .i64 11)], [], []⟩ (Le.weakV rfl rfl rfl rfl ⟨rfl, rfl, rfl, trivial⟩ trivial) ?_
              refine Tri.ret ?_
              exact ⟨congrArg insAV ((insR_go (l := l) h1 h2).trans ((if_neg (gand_f h13)).trans (if_pos (by have := of_decide_eq_true h15; omega)))).symm, trivial⟩
            · refine (Tri.skip ?_)
              refine Tri.seq (Tri.reg hT ?_)
              refine Tri.le ⟨203, 0, 0, [(6, .list pT (insAll pol (newP p) l).out), (7, .int .i64 (insAll pol (newP p) l).conf), (8, .int .i64 0)], [], []⟩ (Le.trans (Le.freeze 6 _ _ rfl rfl (Nat.le_refl _)) (Le.weak rfl rfl rfl rfl ⟨congrArg (AV.list pT) (List.take_length ..), rfl, rfl, trivial⟩ trivial)) ?_
              refine Tri.ret ?_
              exact ⟨congrArg insAV ((insR_go (l := l) h1 h2).trans ((if_neg (gand_f h13)).trans (if_neg (by have := of_decide_eq_false h15; omega)))).symm, trivial⟩
end Go.Proofs.YtchiagnggnblaaaDoor.Fx

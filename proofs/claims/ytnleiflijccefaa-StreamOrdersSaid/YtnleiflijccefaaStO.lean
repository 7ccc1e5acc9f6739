/- Chapter 20: StreamOrders. -/
import Derived.Test.YtnleiflijccefaaStW
import Derived.Test.YtnleiflijccefaaSt11
set_option linter.all false
namespace Go.Proofs.Ytnleiflijccefaa.Fx
open Go Go.Fw Go.Ov
abbrev SO (x : Stt) (T : List UInt8) (o : List Int) (sz : Int) (i : Nat) (l : List Pc) (pos : Int) : St :=
  ⟨139, 0, 60, [(1, .str T), (2, .list (.int .u8) o), (4, .loc 0 0), (9, .int .i64 (zO sz)), (10, .loc 44 0), (11, .str (T.take pos.toNat)), (12, .int .i64 (i : Int))], [(0, .box [.int .u32 x.1, .int .i64 x.2.1, .int .i64 x.2.2.1]), (44, .box (bxS (sO x l pos)))], []⟩
abbrev SO1 (x : Stt) (T : List UInt8) (o : List Int) (sz : Int) (i : Nat) (l : List Pc) (pos : Int) : St :=
  ⟨139, 0, 90, [(1, .str T), (2, .list (.int .u8) o), (4, .loc 0 0), (9, .int .i64 (zO sz)), (10, .loc 44 0), (11, .str (T.take pos.toNat)), (12, .int .i64 (i : Int)), (13, .int .i64 (aO T o i))], [(0, .box [.int .u32 x.1, .int .i64 x.2.1, .int .i64 x.2.2.1]), (44, .box (bxS (sO x l pos)))], []⟩
theorem wEndT {s s' : SS} {seq : Int} (B : Int) (h : SInv s B) (hB : B ≤ 1099511627776) (e : endS s seq = (true, s')) (id : Nat) : CSpec P [] 47 [.loc id 0, .int .u32 seq] (oneU id (bxS s) (some (bxS s'))) (.bool true) := by
  have := f47_spec s B h hB seq id
  rw [e] at this
  exact this
set_option maxRecDepth 8000 in
theorem f12_spec (x : Stt) (T : List UInt8) (o : List Int) (ho : o.length ≤ 140737488351232) (hb : ∀ y ∈ o, 0 ≤ y ∧ y < 256) (sz : Int) (hsz : 0 ≤ sz ∧ sz < 256) (hTl : T.length ≤ 140737488351232) :
    PSpec P [] 12 [stv x, .str T, .list (.int .u8) o, .int .u8 sz] (.bool true) := by
  have hz := zO_rng sz
  refine pspec_intro hT Try.func12 (by decide) rfl rfl (by kernel_rfl) rfl ?_
  refine Tri.seq (Tri.reg hT ?_)
  refine Tri.seq (Tri.reg hT ?_)
  refine ⟨(by decide), ?_⟩
  refine Tri.seq ?_
  refine Tri.seq (Tri.reg hT ?_)
  refine ⟨_, [], trivial, rfl, rfl, fun h => ⟨rfl, rfl, rfl⟩, ?_⟩
  refine ⟨_, [], trivial, rfl, rfl, fun h => ⟨h, rfl, rfl, rfl⟩, ?_⟩
  refine ⟨_, [], trivial, rfl, rfl, fun h => ⟨h, rfl, rfl, rfl⟩, ?_⟩
  refine ⟨⟨fun _ => trivial, fun hc => (gn hc)⟩, ?_⟩
  refine (Tri.cond ⟨fun h1 => ?_, fun h1 => ?_⟩)
  · refine Tri.seq (Tri.reg hT ?_)
    refine .inl (.inl ⟨_, fun _ => rfl, f32_spec .., ?_⟩)
    refine Tri.ret ?_
    exact ⟨rfl, trivial⟩
  · refine (Tri.skip ?_)
    have h1' : T.length ≤ 200 ∧ o.length ≤ 24 := (by simp at h1; omega); have ez : IntKind.i64.wrap ((IntKind.i64.wrap sz).tmod 20 + 4) = zO sz := (by have ww : IntKind.i64.wrap sz = sz := wrapId (by omega); rw [ww]; exact zO_eq' hsz)
    refine Tri.le (⟨139, 0, 40, [(1, .str T), (2, .list (.int .u8) o), (4, .loc 0 0), (9, .int .i64 (zO sz))], [(0, .box [.int .u32 x.1, .int .i64 x.2.1, .int .i64 x.2.2.1])], []⟩) (Le.weak rfl rfl rfl rfl ⟨(by first | rfl | exact iv1 (by (try simp only [decide_eq_true_eq, decide_eq_false_iff_not, toNat_cast] at *); omega)), (by first | rfl | exact iv1 (by (try simp only [decide_eq_true_eq, decide_eq_false_iff_not, toNat_cast] at *); omega)), (by first | rfl | exact iv1 (by (try simp only [decide_eq_true_eq, decide_eq_false_iff_not, toNat_cast] at *); omega)), congrArg (AV.int .i64) ez, trivial⟩ ⟨rfl, trivial⟩) ?_
    refine Tri.seq (Tri.reg hT ?_)
    refine .inl (.inr (.inr ⟨_, (by exact fun _ => rfl), f22_spec x.1 1000 x.2.2.1, ?_⟩))
    refine Tri.seq ?_
    refine Tri.seq (Tri.reg hT ?_)
    refine (Tri.cond ⟨fun h2 => ?_, fun h2 => ?_⟩)
    · exact absurd h2 (by decide)
    · refine (Tri.skip ?_)
      refine Tri.seq (Tri.reg hT ?_)
      refine Tri.seq ?_
      refine Tri.seq (Tri.reg hT ?_)
      refine (Tri.block ?_)
      refine (Tri.loop (ι := Nat × List Pc × Int) (fun y => SO x T o sz y.1 y.2.1 y.2.2) (fun y => LO T o y.1 y.2.1 y.2.2) (fun y => o.length + T.length - y.1) ((0, [], 0)) ?_ ?_ ?_)
      · exact LO.start T o
      · exact Le.weak rfl rfl rfl rfl ⟨(by first | rfl | exact iv1 (by (try simp only [decide_eq_true_eq, decide_eq_false_iff_not, toNat_cast] at *); omega)), (by first | rfl | exact iv1 (by (try simp only [decide_eq_true_eq, decide_eq_false_iff_not, toNat_cast] at *); omega)), (by first | rfl | exact iv1 (by (try simp only [decide_eq_true_eq, decide_eq_false_iff_not, toNat_cast] at *); omega)), (by first | rfl | exact iv1 (by (try simp only [decide_eq_true_eq, decide_eq_false_iff_not, toNat_cast] at *); omega)), (by first | rfl | exact iv1 (by (try simp only [decide_eq_true_eq, decide_eq_false_iff_not, toNat_cast] at *); omega)), (by first | rfl | exact iv1 (by (try simp only [decide_eq_true_eq, decide_eq_false_iff_not, toNat_cast] at *); omega)), (by first | rfl | exact iv1 (by (try simp only [decide_eq_true_eq, decide_eq_false_iff_not, toNat_cast] at *); omega)), trivial⟩ ⟨rfl, rfl, trivial⟩
      · intro ⟨i, l, pos⟩ hi; change LO T o i l pos at hi; change Tri P _ _ (SO x T o sz i l pos); have hil := hi.le; have hinv := hi.inv; have hp0 := hinv.p0; have hp1 := hinv.p1
        refine Tri.seq ?_
        refine Tri.seq (Tri.reg hT ?_)
        refine (Tri.cond ⟨fun h3 => ?_, fun h3 => ?_⟩)
        · refine (Tri.skip ?_)
          refine Tri.seq (Tri.block ?_)
          have h3' : i < o.length + T.length := (by have h9 := of_decide_eq_true h3; rw [wrapId (by omega)] at h9; omega)
          refine Tri.seq (Tri.reg hT ?_)
          refine Tri.join (True) (SO1 x T o sz i l pos) ?_ fun hp5 => ?_
          · refine Tri.seq (Tri.reg hT ?_)
            refine ⟨_, [], trivial, rfl, rfl, fun h => ⟨rfl, rfl, rfl⟩, ?_⟩
            refine ⟨_, [], trivial, rfl, rfl, fun h => ⟨h, rfl, rfl, rfl⟩, ?_⟩
            refine ⟨_, [], trivial, rfl, rfl, fun h => ⟨h, rfl, rfl, rfl⟩, ?_⟩
            refine ⟨⟨fun hc => hc, fun _ => trivial⟩, ?_⟩
            refine (Tri.cond ⟨fun h4 => ?_, fun h4 => ?_⟩)
            · refine (Tri.reg hT ?_)
              refine ⟨by have := gand_t h4; omega, ?_⟩
              refine ⟨by have := gand_t h4; omega, ?_⟩
              exact ⟨trivial, Le.weak rfl rfl rfl rfl ⟨(by first | rfl | exact iv1 (by (try simp only [decide_eq_true_eq, decide_eq_false_iff_not, toNat_cast] at *); omega)), (by first | rfl | exact iv1 (by (try simp only [decide_eq_true_eq, decide_eq_false_iff_not, toNat_cast] at *); omega)), (by first | rfl | exact iv1 (by (try simp only [decide_eq_true_eq, decide_eq_false_iff_not, toNat_cast] at *); omega)), (by first | rfl | exact iv1 (by (try simp only [decide_eq_true_eq, decide_eq_false_iff_not, toNat_cast] at *); omega)), (by first | rfl | exact iv1 (by (try simp only [decide_eq_true_eq, decide_eq_false_iff_not, toNat_cast] at *); omega)), (by first | rfl | exact iv1 (by (try simp only [decide_eq_true_eq, decide_eq_false_iff_not, toNat_cast] at *); omega)), (by first | rfl | exact iv1 (by (try simp only [decide_eq_true_eq, decide_eq_false_iff_not, toNat_cast] at *); omega)), congrArg (AV.int .i64) (aO_t hb (by have := gand_t h4; omega)), trivial⟩ ⟨rfl, rfl, trivial⟩⟩
            · refine (Tri.skip ?_)
              exact ⟨trivial, Le.weak rfl rfl rfl rfl ⟨(by first | rfl | exact iv1 (by (try simp only [decide_eq_true_eq, decide_eq_false_iff_not, toNat_cast] at *); omega)), (by first | rfl | exact iv1 (by (try simp only [decide_eq_true_eq, decide_eq_false_iff_not, toNat_cast] at *); omega)), (by first | rfl | exact iv1 (by (try simp only [decide_eq_true_eq, decide_eq_false_iff_not, toNat_cast] at *); omega)), (by first | rfl | exact iv1 (by (try simp only [decide_eq_true_eq, decide_eq_false_iff_not, toNat_cast] at *); omega)), (by first | rfl | exact iv1 (by (try simp only [decide_eq_true_eq, decide_eq_false_iff_not, toNat_cast] at *); omega)), (by first | rfl | exact iv1 (by (try simp only [decide_eq_true_eq, decide_eq_false_iff_not, toNat_cast] at *); omega)), (by first | rfl | exact iv1 (by (try simp only [decide_eq_true_eq, decide_eq_false_iff_not, toNat_cast] at *); omega)), congrArg (AV.int .i64) (by have := gand_f h4; rw [wrapId (by omega)]; exact (if_neg (by omega)).symm), trivial⟩ ⟨rfl, rfl, trivial⟩⟩
          · refine Tri.seq ?_
            refine Tri.seq (Tri.reg hT ?_)
            refine ⟨_, [], trivial, rfl, rfl, fun h => ⟨rfl, rfl, rfl⟩, ?_⟩
            refine ⟨_, [], trivial, rfl, rfl, fun h => ⟨rfl, rfl, rfl⟩, ?_⟩
            refine ⟨_, [], trivial, rfl, rfl, fun h => ⟨h, rfl, rfl, rfl⟩, ?_⟩
            refine ⟨_, [], trivial, rfl, rfl, fun h => ⟨h, h, rfl, rfl, rfl⟩, ?_⟩
            refine ⟨_, [], trivial, rfl, rfl, fun h => ⟨h, rfl, rfl, rfl⟩, ?_⟩
            refine ⟨_, [], trivial, rfl, rfl, fun h => ⟨rfl, rfl, rfl⟩, ?_⟩
            refine ⟨_, [], trivial, rfl, rfl, fun h => ⟨h, (by decide), rfl, rfl, rfl⟩, ?_⟩
            refine ⟨_, [], trivial, rfl, rfl, fun h => ⟨h, rfl, rfl, rfl⟩, ?_⟩
            refine ⟨_, [], trivial, rfl, rfl, fun h => ⟨h, ⟨fun hc => ga h hc, fun _ => trivial⟩, rfl, rfl, rfl⟩, ?_⟩
            refine ⟨⟨fun _ => trivial, fun hc => (gn hc)⟩, ?_⟩
            refine (Tri.cond ⟨fun h5 => ?_, fun h5 => ?_⟩)
            · refine Tri.exit ?_
              refine (Tri.reg hT ?_)
              have hsk : skO T o i := (by unfold skO; simp at h5 ⊢; omega)
              exact ⟨(i + 1, l, pos), hi.skip h3' hsk, (by show o.length + T.length - (i + 1) < o.length + T.length - i; omega), Le.weak rfl rfl rfl rfl ⟨(by first | rfl | exact iv1 (by (try simp only [decide_eq_true_eq, decide_eq_false_iff_not, toNat_cast] at *); omega)), (by first | rfl | exact iv1 (by (try simp only [decide_eq_true_eq, decide_eq_false_iff_not, toNat_cast] at *); omega)), (by first | rfl | exact iv1 (by (try simp only [decide_eq_true_eq, decide_eq_false_iff_not, toNat_cast] at *); omega)), (by first | rfl | exact iv1 (by (try simp only [decide_eq_true_eq, decide_eq_false_iff_not, toNat_cast] at *); omega)), (by first | rfl | exact iv1 (by (try simp only [decide_eq_true_eq, decide_eq_false_iff_not, toNat_cast] at *); omega)), (by first | rfl | exact iv1 (by (try simp only [decide_eq_true_eq, decide_eq_false_iff_not, toNat_cast] at *); omega)), (by first | rfl | exact iv1 (by (try simp only [decide_eq_true_eq, decide_eq_false_iff_not, toNat_cast] at *); omega)), trivial⟩ ⟨rfl, rfl, trivial⟩⟩
            · refine (Tri.skip ?_)
              have hsk : ¬ skO T o i := (by unfold skO; simp at h5 ⊢; omega); have ha0 : 0 ≤ aO T o i := (by rcases Int.lt_or_le (aO T o i) 0 with q | q; exact absurd (.inl q) hsk; exact q); have ha1 := aO_lt h3' ha0; obtain ⟨l', pos', st, hi2⟩ := hi.step x (z := zO sz) h3' hsk h1'.1 h1'.2 hz; obtain ⟨cut, hres⟩ := st.res; have wz : IntKind.i64.wrap (aO T o i + zO sz) = aO T o i + zO sz := wrapId (by omega); have hge := st.ge; have hp1' := hi2.inv.p1; have hsl := segT_len (z := zO sz) ha0 ha1 (by omega); have addC : CSpec P [] 23 [.loc 44 0, .int .u32 (seqO x (aO T o i)), .str ((T.take (min (IntKind.i64.wrap (aO T o i + zO sz)) (T.length : Int)).toNat).drop (aO T o i).toNat)] (oneU 44 (bxS (sO x l pos)) (some (bxS (sO x l' pos')))) (.tup [.str ((T.drop pos.toNat).take (pos' - pos).toNat), .int .i64 cut, .int .i64 0]) := (by rw [wz]; exact wAdd (s := sO x l pos) (seq := seqO x (aO T o i)) (d := segT T (aO T o i) (zO sz)) 200 (hinv.s h1'.1) (by decide) (by omega) hres 44)
              refine Tri.seq (Tri.drw hT hm 23 (by kernel_rfl) ?_)
              refine ⟨by rw [wz]; omega, ?_⟩
              refine .inr (.inl ⟨_, _, (by exact ⟨rfl, trivial⟩), addC, (by rfl), ?_⟩)
              refine ⟨by kernel_rfl, ?_⟩
              refine Tri.seq ?_
              refine Tri.seq (Tri.reg hT ?_)
              refine (Tri.cond ⟨fun h6 => ?_, fun h6 => ?_⟩)
              · simp at h6
              · refine (Tri.skip ?_)
                refine (Tri.reg hT ?_)
                refine ⟨by simp only [List.length_take, List.length_drop]; omega, ?_⟩
                refine (Tri.reg hT ?_)
                exact ⟨(i + 1, l', pos'), hi2, (by show o.length + T.length - (i + 1) < o.length + T.length - i; omega), Le.weak rfl rfl rfl rfl ⟨(by first | rfl | exact iv1 (by (try simp only [decide_eq_true_eq, decide_eq_false_iff_not, toNat_cast] at *); omega)), (by first | rfl | exact iv1 (by (try simp only [decide_eq_true_eq, decide_eq_false_iff_not, toNat_cast] at *); omega)), (by first | rfl | exact iv1 (by (try simp only [decide_eq_true_eq, decide_eq_false_iff_not, toNat_cast] at *); omega)), (by first | rfl | exact iv1 (by (try simp only [decide_eq_true_eq, decide_eq_false_iff_not, toNat_cast] at *); omega)), (by first | rfl | exact iv1 (by (try simp only [decide_eq_true_eq, decide_eq_false_iff_not, toNat_cast] at *); omega)), congrArg AV.str (take_more hp0 hge), (by first | rfl | exact iv1 (by (try simp only [decide_eq_true_eq, decide_eq_false_iff_not, toNat_cast] at *); omega)), trivial⟩ ⟨rfl, rfl, trivial⟩⟩
        · refine Tri.exit ?_
          have h3' : ¬ i < o.length + T.length := (by have h9 := of_decide_eq_false h3; rw [wrapId (by omega)] at h9; omega); obtain ⟨hpos, hls⟩ := hi.done h3'; subst hpos; obtain ⟨s', he1, he2⟩ := end_O x T l h1'.1; have hlen := hinv.len
          refine Tri.le (⟨139, 0, 90, [(1, .str T), (4, .loc 0 0), (10, .loc 44 0), (11, .str T)], [(0, .box [.int .u32 x.1, .int .i64 x.2.1, .int .i64 x.2.2.1]), (44, .box (bxS (sO x l T.length)))], []⟩) (Le.weak rfl rfl rfl rfl ⟨(by first | rfl | exact iv1 (by (try simp only [decide_eq_true_eq, decide_eq_false_iff_not, toNat_cast] at *); omega)), (by first | rfl | exact iv1 (by (try simp only [decide_eq_true_eq, decide_eq_false_iff_not, toNat_cast] at *); omega)), (by first | rfl | exact iv1 (by (try simp only [decide_eq_true_eq, decide_eq_false_iff_not, toNat_cast] at *); omega)), congrArg AV.str (by simp), trivial⟩ ⟨rfl, rfl, trivial⟩) ?_
          refine Tri.seq (Tri.regM hT [4, 5, 6, 7, 8, 11, 12, 13, 16, 17, 18, 19, 20, 21, 22, 23, 24, 27, 28] ?_)
          refine ⟨_, Le.refl _, .inr ⟨_, rfl, (by refine (congrArg some ?_ : some _ = some true); simp [gd, hls, he2, sO]), ?_⟩⟩
          refine ⟨_, Le.refl _, .inr ⟨_, rfl, (by refine (congrArg some ?_ : some _ = some true); simp [gd, hls, he2, sO]), ?_⟩⟩
          refine .inl (.inr (.inl ⟨_, _, (by exact ⟨rfl, trivial⟩), f41_spec _ _, (by rfl), ?_⟩))
          refine ⟨_, Le.refl _, .inr ⟨_, rfl, (by refine (congrArg some ?_ : some _ = some true); simp [gd, hls, he2, sO]), ?_⟩⟩
          refine ⟨_, Le.refl _, .inr ⟨_, rfl, (by refine (congrArg some ?_ : some _ = some true); simp [gd, hls, he2, sO]), ?_⟩⟩
          refine ⟨_, Le.refl _, .inr ⟨_, rfl, (by refine (congrArg some ?_ : some _ = some true); simp [gd, hls, he2, sO]), ?_⟩⟩
          refine ⟨⟨fun _ => trivial, fun _ => trivial⟩, ?_⟩
          refine ⟨_, Le.refl _, .inr ⟨_, rfl, (by refine (congrArg some ?_ : some _ = some true); simp [gd, hls, he2, sO]), ?_⟩⟩
          refine ⟨_, Le.refl _, .inr ⟨_, rfl, (by refine (congrArg some ?_ : some _ = some true); simp [gd, hls, he2, sO]), ?_⟩⟩
          refine .inl (.inr (.inl ⟨_, _, (by exact ⟨rfl, trivial⟩), f43_spec (sO x l T.length) (by show l.length ≤ _; omega) (by show lenSum l ≤ _; omega) _, (by rfl), ?_⟩))
          refine ⟨_, Le.refl _, .inr ⟨_, rfl, (by refine (congrArg some ?_ : some _ = some true); simp [gd, hls, he2, sO]), ?_⟩⟩
          refine ⟨⟨fun _ => trivial, fun _ => trivial⟩, ?_⟩
          refine ⟨_, Le.refl _, .inr ⟨_, rfl, (by refine (congrArg some ?_ : some _ = some true); simp [gd, hls, he2, sO]), ?_⟩⟩
          refine ⟨_, Le.refl _, .inr ⟨_, rfl, (by refine (congrArg some ?_ : some _ = some true); simp [gd, hls, he2, sO]), ?_⟩⟩
          refine ⟨_, Le.refl _, .inr ⟨_, rfl, (by refine (congrArg some ?_ : some _ = some true); simp [gd, hls, he2, sO]), ?_⟩⟩
          refine ⟨_, Le.refl _, .inr ⟨_, rfl, (by refine (congrArg some ?_ : some _ = some true); simp [gd, hls, he2, sO]), ?_⟩⟩
          refine ⟨_, Le.refl _, .inr ⟨_, rfl, (by refine (congrArg some ?_ : some _ = some true); simp [gd, hls, he2, sO]), ?_⟩⟩
          refine ⟨_, Le.refl _, .inr ⟨_, rfl, (by refine (congrArg some ?_ : some _ = some true); simp [gd, hls, he2, sO]), ?_⟩⟩
          refine ⟨_, Le.refl _, .inr ⟨_, rfl, (by refine (congrArg some ?_ : some _ = some true); simp [gd, hls, he2, sO]), ?_⟩⟩
          refine ⟨_, Le.refl _, .inr ⟨_, rfl, (by refine (congrArg some ?_ : some _ = some true); simp [gd, hls, he2, sO]), ?_⟩⟩
          refine ⟨_, Le.refl _, .inr ⟨_, rfl, (by refine (congrArg some ?_ : some _ = some true); simp [gd, hls, he2, sO]), ?_⟩⟩
          refine .inl (.inr (.inl ⟨_, _, (by exact ⟨rfl, trivial⟩), wEndT 200 (hinv.s h1'.1) (by decide) he1 44, (by rfl), ?_⟩))
          refine ⟨⟨fun _ => trivial, fun _ => trivial⟩, ?_⟩
          refine ⟨_, Le.refl _, .inr ⟨_, rfl, (by refine (congrArg some ?_ : some _ = some true); simp [gd, hls, he2, sO]), ?_⟩⟩
          refine ⟨_, Le.refl _, .inr ⟨_, rfl, (by refine (congrArg some ?_ : some _ = some true); simp [gd, hls, he2, sO]), ?_⟩⟩
          refine .inl (.inr (.inl ⟨_, _, (by exact ⟨rfl, trivial⟩), f45_spec s' _, (by rfl), ?_⟩))
          refine ⟨⟨fun _ => trivial, fun _ => trivial⟩, ?_⟩
          refine ⟨_, [], trivial, rfl, rfl, fun h => (.inl ⟨_, fun _ => rfl, f32_spec .., rfl, rfl, rfl⟩), ?_⟩
          refine ⟨⟨fun hc => hc, fun _ => trivial⟩, ?_⟩
          refine Tri.ret ?_
          refine ⟨?_, trivial⟩; show AV.bool _ = AV.bool true; refine congrArg AV.bool ?_; simp [hls, he2, sO]
end Go.Proofs.Ytnleiflijccefaa.Fx

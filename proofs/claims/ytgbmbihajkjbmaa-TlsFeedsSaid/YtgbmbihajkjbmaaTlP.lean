import Derived.Test.YtgbmbihajkjbmaaTlO
import Derived.Test.YtgbmbihajkjbmaaGTl2
set_option linter.all false
/- Contracts of chapter 32: the reference's builders. -/
namespace Go.Proofs.Ytgbmbihajkjbmaa.Fx
open Go Go.Fw Go.Ov Go.Tl Go.Shelf
theorem f37_spec (s : List UInt8) (k : Nat) (hk : 1 ≤ k ∧ k ≤ 7) (hs : s.length ≤ 1099511627776) : PSpec P [] 37 [.str s, .int .i64 (k : Int)] (.tup [.str (szM s k).1, .bool (szM s k).2]) := by
  have hp := putM_len s.length k
  refine pspec_intro hT Try.func37 (by decide) rfl rfl (by kernel_rfl) rfl ?_
  refine Tri.seq (Tri.reg hT ?_)
  refine Tri.seq (Tri.reg hT ?_)
  refine .inl (.inl ⟨_, fun _ => rfl, f38_spec k hk.1 hk.2 s.length (by omega), ?_⟩)
  refine Tri.seq (Tri.reg hT ?_)
  refine ⟨by omega, ?_⟩
  refine Tri.ret ?_
  exact ⟨rfl, trivial⟩
theorem f39_spec (kind : Nat) (body : List UInt8) (hs : body.length ≤ 549755813888) : PSpec P [] 39 [.int .u8 (kind : Int), .str body] (.str (msgRf kind body)) := by
  have hz := sz_len body 3
  refine pspec_intro hT Try.func39 (by decide) rfl rfl (by kernel_rfl) rfl ?_
  refine Tri.seq (Tri.reg hT ?_)
  refine Tri.seq (Tri.reg hT ?_)
  refine .inl (.inl ⟨_, fun _ => rfl, f37_spec body 3 (by decide) (by omega), ?_⟩)
  refine Tri.seq ?_
  refine Tri.seq (Tri.reg hT ?_)
  refine (Tri.cond ⟨fun h1 => ?_, fun h1 => ?_⟩)
  · have q : (szM body 3).2 = false := (by simpa using h1); have eM : msgRf kind body = [] := (by unfold msgRf; rw [q]; rfl); rw [eM]
    refine Tri.seq (Tri.reg hT ?_)
    refine Tri.ret ?_
    exact ⟨rfl, trivial⟩
  · refine (Tri.skip ?_)
    have q : (szM body 3).2 = true := (by simpa using h1); have eM : msgRf kind body = cutM 22 16384 ([UInt8.ofNat kind] ++ (szM body 3).1) := if_pos q; rw [eM]
    refine Tri.seq (Tri.reg hT ?_)
    refine ⟨by exact Nat.le_refl _, ?_⟩
    refine ⟨by show 1 + _ ≤ _; omega, ?_⟩
    refine .inl (.inl ⟨_, fun _ => rfl, f26_spec _ 16384 (by rw [List.length_append]; show 1 + _ ≤ _; omega), ?_⟩)
    refine Tri.ret ?_
    exact ⟨rfl, trivial⟩
theorem f24_spec (n : Int) : PSpec P [] 24 [.int .i64 n] (.str (cutM 23 16384 (List.replicate (min (max n 0) 1048576).toNat 0))) := by
  refine pspec_intro hT Try.func24 (by decide) rfl rfl (by kernel_rfl) rfl ?_
  refine Tri.seq (Tri.reg hT ?_)
  refine Tri.seq (Tri.reg hT ?_)
  refine ⟨by dsimp only; omega, ?_⟩
  refine ⟨by simp, ?_⟩
  refine .inl (.inl ⟨_, fun _ => rfl, f42_spec 23 16384 _ (by decide) (by rw [List.length_map, List.length_take]; simp; omega), ?_⟩)
  refine Tri.ret ?_
  exact ⟨congrArg AV.str (by simp [Fw.byteOf]), trivial⟩
theorem srvRf_len (v : Nat) : (srvRf v).length ≤ 100 := by
  have := putM_len (min v 771) 2
  unfold srvRf
  split <;> simp only [List.length_append, List.length_replicate, List.length_cons, List.length_nil] <;> omega
theorem f20_spec (version : Int) : PSpec P [] 20 [.int .i64 version] (.str (msgRf 2 (srvRf (clampV version)))) := by
  have hv := clampV_rng version
  have he := clampV_eq version
  have kp := f38_spec 2 (by decide) (by decide) (min (clampV version) 771) (by omega)
  rw [show ((min (clampV version) 771 : Nat) : Int) = min ((clampV version : Nat) : Int) 771 from by omega] at kp
  have hp := putM_len (min (clampV version) 771) 2
  have hl := srvRf_len (clampV version)
  refine pspec_intro hT Try.func20 (by decide) rfl rfl (by kernel_rfl) rfl ?_
  refine Tri.seq (Tri.reg hT ?_)
  refine Tri.seq (Tri.reg hT ?_)
  skip
  refine Tri.le (⟨18, 0, 20, [(0, .int .i64 ((clampV version : Nat) : Int))], [], []⟩) (Le.weak rfl rfl rfl rfl ⟨congrArg (AV.int .i64) he.symm, trivial⟩ trivial) ?_
  refine Tri.seq (Tri.reg hT ?_)
  refine .inl (.inl ⟨_, fun _ => rfl, kp, ?_⟩)
  refine ⟨by show _ + 32 ≤ _; omega, ?_⟩
  refine ⟨by rw [List.length_append]; show _ + 32 + 4 ≤ _; omega, ?_⟩
  refine Tri.seq ?_
  refine Tri.seq (Tri.reg hT ?_)
  refine (Tri.cond ⟨fun h1 => ?_, fun h1 => ?_⟩)
  · refine (Tri.reg hT ?_)
    refine ⟨by rw [List.length_append, List.length_append]; show _ + 32 + 4 + 8 ≤ _; omega, ?_⟩
    skip
    refine Tri.le (⟨18, 0, 60, [(3, .str (srvRf (clampV version)))], [], []⟩) (Le.weak rfl rfl rfl rfl ⟨congrArg AV.str (by unfold srvRf; first | (rw [if_pos (cv (by assumption))]; rfl) | (rw [if_neg (cw (by assumption)), List.append_nil]; rfl)), trivial⟩ trivial) ?_
    refine Tri.seq (Tri.reg hT ?_)
    refine .inl (.inl ⟨_, fun _ => rfl, f39_spec 2 (srvRf (clampV version)) (by omega), ?_⟩)
    refine Tri.ret ?_
    exact ⟨rfl, trivial⟩
  · refine (Tri.skip ?_)
    skip
    refine Tri.le (⟨18, 0, 60, [(3, .str (srvRf (clampV version)))], [], []⟩) (Le.weak rfl rfl rfl rfl ⟨congrArg AV.str (by unfold srvRf; first | (rw [if_pos (cv (by assumption))]; rfl) | (rw [if_neg (cw (by assumption)), List.append_nil]; rfl)), trivial⟩ trivial) ?_
    refine Tri.seq (Tri.reg hT ?_)
    refine .inl (.inl ⟨_, fun _ => rfl, f39_spec 2 (srvRf (clampV version)) (by omega), ?_⟩)
    refine Tri.ret ?_
    exact ⟨rfl, trivial⟩
end Go.Proofs.Ytgbmbihajkjbmaa.Fx

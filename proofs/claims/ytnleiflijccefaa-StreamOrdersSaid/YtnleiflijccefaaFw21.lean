/- The framework, part 21: boxes of the caller's by whatever number; guards that are known. -/
import Derived.Test.YtnleiflijccefaaFw20
set_option linter.all false
set_option linter.unusedVariables false
namespace Go.Fw
variable {P : Program}

abbrev oneU (id : Nat) (cs : List AV) (n : Option (List AV)) : Upd := [(id, cs, n)]
theorem one_get {id : Nat} {cs : List AV} {n : Option (List AV)} {k : Nat} {d : Chunk} (h : applyU noHeap (oneU id cs n) k = some d) : k = id ∧ d = .box (newCells cs n) := by
  simp only [applyU, noHeap] at h
  split at h
  · rename_i e; simp only [Option.some.injEq] at h; exact ⟨e, h.symm⟩
  · cases h
theorem one_self (id : Nat) (cs : List AV) (n : Option (List AV)) : applyU noHeap (oneU id cs n) id = some (.box (newCells cs n)) := by simp [applyU]
/-- A contract over the box 0 holds over a box of any number. -/
theorem CSpec.box {gl : Gl} {f : FuncId} {off : Nat} {rest : List AV} {cs : List AV} {n : Option (List AV)} {ret : AV} (id : Nat) (hid : ∀ j, AV.hasAny j rest = false) (hcs : ∀ j, AV.hasAny j cs = false) (hn : ∀ j, AV.hasAny j (newCells cs n) = false) (hret : ∀ j, ret.has j = false)
    (h : CSpec P gl f (.loc 0 off :: rest) (oneU 0 cs n) ret) : CSpec P gl f (.loc id off :: rest) (oneU id cs n) ret := by
  refine ⟨h.1, fun φ R w vs hh hR hgl hargs => ?_⟩
  have hold : ∀ i, (oneU i cs n).old = oneU i cs none := fun i => rfl
  rw [hold] at hh
  have hown : ∀ (φ φ0 : Place) (i j : Nat) (c c' : Option (List AV)), φ0 j = φ i → ∀ b, Owns φ0 (applyU noHeap (oneU j cs c)) b → Owns φ (applyU noHeap (oneU i cs c')) b := by
    rintro φ φ0 i j c c' he b ⟨k, ch, cap, hk, hp⟩
    obtain ⟨rfl, rfl⟩ := one_get hk
    exact ⟨i, _, cap, one_self i cs c', by rw [← he]; exact hp⟩
  obtain ⟨b, cap, bv, te, fr, hp, hb, hrs, hnR, hnf⟩ := hh.rel id _ (one_self id cs none)
  have h0 : HRel (fun k => if k = 0 then φ id else none) R w (applyU noHeap (oneU 0 cs none)) := by
    refine ⟨fun k c hk => ?_, fun k j c d b cap cap' hk hj _ _ => ?_⟩
    · obtain ⟨rfl, rfl⟩ := one_get hk
      exact ⟨b, cap, bv, te, fr, by simp [hp], hb, RepVs.mono (fun _ _ h => h) (fun _ _ _ => rfl) (fun j hj => by have := hcs j; simp only [newCells] at hj; rw [this] at hj; cases hj) hrs, hnR, hnf⟩
    · obtain ⟨rfl, _⟩ := one_get hk
      obtain ⟨rfl, _⟩ := one_get hj
      rfl
  have hgl0 : GlOK gl (fun k => if k = 0 then φ id else none) R w := fun g cs hg => by
    refine ⟨RepV.mono (fun _ _ h => h) (fun _ _ _ => rfl) (fun j hj => ?_) (hgl g cs hg).1, (hgl g cs hg).2⟩
    simp only [AV.has] at hj
    rw [(hgl g cs hg).2 j] at hj
    simp at hj
  have hargs0 : RepVs (fun k => if k = 0 then φ id else none) R w (.loc 0 off :: rest) vs := by
    simp only [RepVs] at hargs ⊢
    obtain ⟨u, us, e, h1, h2⟩ := hargs
    refine ⟨u, us, e, ?_, RepVs.mono (fun _ _ h => h) (fun _ _ _ => rfl) (fun j hj => by rw [hid j] at hj; simp at hj) h2⟩
    simpa [RepV] using h1
  refine (h.2 _ R w vs h0 hR hgl0 hargs0).mono ?_
  rintro e w' ⟨v, φ', R', rfl, hv, hh', hR', hevo, hkeep⟩
  have hk0 := (hkeep 0 _ (one_self 0 cs none)).1
  refine ⟨v, fun k => if k = id then φ' 0 else φ k, R', rfl, RepV.mono (fun _ _ h => h) (fun _ _ _ => rfl) (fun j hj => by rw [hret j] at hj; cases hj) hv, ⟨fun k c hk => ?_, fun k j c d b cap cap' hk hj _ _ => ?_⟩, hR',
    ⟨hevo.os, hevo.tape, hevo.output, hevo.size, fun b hb ho => hevo.keep b hb (fun h => ho (hown _ _ _ _ _ _ (by simp) b h)), hevo.rmono, hevo.rkeep, fun b o hb => ?_, fun b hb => ?_⟩, fun j cs' hj => ?_⟩
  · obtain ⟨rfl, rfl⟩ := one_get hk
    obtain ⟨b, cap, bv, te, fr, hp, hb, hrs, hnR, hnf⟩ := hh'.rel 0 _ (one_self 0 cs n)
    exact ⟨b, cap, bv, te, fr, by simp [hp], hb, RepVs.mono (fun _ _ h => h) (fun _ _ _ => rfl) (fun j hj => by rw [hn j] at hj; cases hj) hrs, hnR, hnf⟩
  · obtain ⟨rfl, _⟩ := one_get hk
    obtain ⟨rfl, _⟩ := one_get hj
    rfl
  · rcases hevo.rnew b o hb with h | h | h
    · exact .inl h
    · exact .inr (.inl h)
    · exact .inr (.inr (hown _ _ _ _ _ _ (by simp) b h))
  · have : Owns φ' (applyU noHeap (oneU 0 cs n)) b := hown _ _ _ _ _ _ (by simp) b hb
    rcases hevo.onew b this with h | h
    · exact .inl h
    · exact .inr (hown _ _ _ _ _ _ (by simp) b h)
  · obtain ⟨rfl, _⟩ := one_get hj
    refine ⟨by simpa using hk0, _, one_self _ cs n⟩
theorem lookup_oneU (cs : List AV) (n : Option (List AV)) : (fun k => lookup k [(0, Chunk.box (newCells cs n))]) = applyU noHeap (oneU 0 cs n) := by
  funext k
  simp only [applyU, noHeap, lookup]
  cases k with
  | zero => rfl
  | succ k => rfl
theorem cspec_intro {T : Tab} (hT : tabOK P T = true) {gl : Gl} {f : FuncId} {fn : Func} {c : Code} {off : Nat} {rest : List AV} {cs : List AV} {n : Option (List AV)} {ret : AV} (hf : P.funcs[f]? = some fn) (hname : (fn.name == "runtime.NumGoroutine") = false) (hb : fn.body = some c)
    (hlen : Nat.ble (rest.length + 1) fn.ntmps = true) (hd : codeDst fn.ntmps c = true) (hcl : (St.init fn (.loc 0 off :: rest) [(0, .box cs)] 1 1 gl).closed = true)
    (hid : ∀ j, AV.hasAny j rest = false) (hcs : ∀ j, AV.hasAny j cs = false) (hn : ∀ j, AV.hasAny j (newCells cs n) = false) (hret : ∀ j, ret.has j = false)
    (htri : Tri P c (Ends T fn ret [(0, .box (newCells cs n))]) (St.init fn (.loc 0 off :: rest) [(0, .box cs)] 1 1 gl)) (id : Nat) : CSpec P gl f (.loc id off :: rest) (oneU id cs n) ret := by
  refine CSpec.box id hid hcs hn hret ?_
  have := fspec_intro hT [(0, .box cs)] [(0, .box (newCells cs n))] 1 1 hf hname hb (by simpa using hlen) hd hcl rfl htri
  rw [lookup_oneU cs n] at this
  have e := lookup_oneU cs none
  simp only [newCells] at e
  rw [e] at this
  exact this
theorem nspec_intro {T : Tab} (hT : tabOK P T = true) {gl : Gl} {f : FuncId} {fn : Func} {c : Code} {args : List AV} {cs : List AV} (k : Nat) (hf : P.funcs[f]? = some fn) (hname : (fn.name == "runtime.NumGoroutine") = false) (hb : fn.body = some c)
    (hlen : Nat.ble args.length fn.ntmps = true) (hd : codeDst fn.ntmps c = true) (hcl : (St.init fn args [] 0 0 gl).closed = true)
    (htri : Tri P c (Ends T fn (.loc k 0) [(k, .box cs)]) (St.init fn args [] 0 0 gl)) : NSpec P gl f args cs :=
  ⟨k, fspec_intro hT [] [(k, .box cs)] 0 0 hf hname hb hlen hd hcl rfl htri⟩
end Go.Fw

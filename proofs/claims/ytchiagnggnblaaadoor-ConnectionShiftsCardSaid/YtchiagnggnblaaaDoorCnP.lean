import Derived.Test.YtchiagnggnblaaaDoorCnO
set_option linter.all false
/- Chapter 21: hosts, handshakes, and the small example. -/
namespace Go.Proofs.YtchiagnggnblaaaDoor.Ac
open Go Go.Fw Go.Ov Go.Proofs.YtchiagnggnblaaaDoor.Fx
abbrev tcT : Ty := .cons (.int .i64) (.cons (.int .i64) (.cons (.int .u32) (.cons (.int .u32) (.cons (.int .i64) (.cons (.int .i64) (.cons (.int .i64) (.cons (.list optT) (.cons .str .nil))))))))
abbrev sgT : Ty := .cons (.int .i64) (.cons tcT .nil)
abbrev Tc := Int × Int × Int × Int × Int × Int × Int × List optT.D × List UInt8 × Unit
abbrev Sg := Int × Tc × Unit
abbrev tqS (e : Sg) : Int := e.2.1.2.2.1
abbrev tkK (e : Sg) : Int := e.2.1.2.2.2.1
abbrev tfF (e : Sg) : Int := e.2.1.2.2.2.2.1
abbrev toO (e : Sg) : List optT.D := e.2.1.2.2.2.2.2.2.2.1
abbrev txX (e : Sg) : List UInt8 := e.2.1.2.2.2.2.2.2.2.2.1
def segS (c : Cnn) (e : Sg) : List Evt × Cnn := segC e.1 c (tqS e) (tkK e) (tfF e) (toO e) (txX e)
def hostH (w p : Int) : Hf := { nm := [], v6 := false, hi := 0, lo := 0, ln := 0, pol := p, frag := 0, hops := 0, win := w, stamps := false, val := 0, sv := [], isn := 0, high := 0, stamped := false, stamp := 0 }
theorem f9_spec (w p : Int) : PSpec P G 9 [.int .i64 w, .int .i64 p] (.agg (asA (hostH w p))) := by
  refine pspec_intro hT Tryd.func9 (by decide) rfl rfl (by kernel_rfl) rfl ?_
  refine Tri.seq (Tri.reg hT ?_)
  refine Tri.seq (Tri.reg hT ?_)
  refine Tri.le ⟨8, 0, 50, [(4, .loc 0 0)], [(0, .box (asA (hostH w p)))], G⟩ (Le.weakV rfl rfl rfl rfl ⟨rfl, trivial⟩ ⟨⟨rfl, rfl, rfl, rfl, rfl, rfl, rfl, rfl, rfl, rfl, rfl, rfl, trivial⟩, trivial⟩) ?_
  refine Tri.ret ?_
  exact ⟨rfl, trivial⟩
def shkM (a b : Int) : List Sg := [(1, (0, 0, a, 0, 2, 0, 0, [], [], ()), ()), (2, (0, 0, b, IntKind.u32.wrap (a + 1), 18, 0, 0, [], [], ()), ()), (1, (0, 0, IntKind.u32.wrap (a + 1), IntKind.u32.wrap (b + 1), 16, 0, 0, [], [], ()), ())]
set_option maxRecDepth 16000 in
theorem f10_spec (a b : Int) : PSpec P G 10 [.int .u32 a, .int .u32 b] (.list sgT (shkM a b)) := by
  refine pspec_intro hT Tryd.func10 (by decide) rfl rfl (by kernel_rfl) rfl ?_
  refine Tri.seq (Tri.reg hT ?_)
  refine Tri.seq (Tri.reg hT ?_)
  refine Tri.le _ (Le.freeze 4 15 3 rfl rfl (Nat.le_refl 3)) ?_
  refine Tri.ret ?_
  exact ⟨rfl, trivial⟩
/-! ### the example -/
abbrev lH : Hf := hostH 100 1
def lH1 : Hf := begH lH 100 []
def lH2 : Hf := begH lH 300 []
def lv3 : Cnn := ⟨stM (tkS (nwS lH1) 101 16 []) (tkT (nwS lH2) 301), tkH lH1 (nwS lH1) 101 16 [] [], lH2, some (tkS (nwS lH1) 101 16 [], tkT (nwS lH2) 301)⟩
def lv4 : Cnn := (segC 1 lv3 103 301 16 [] [99]).2
def lv5 : Cnn := (segC 1 lv4 101 301 16 [] [97, 98]).2
theorem lvI3 : CInv lv3 8192 := by
  refine ⟨(tkS_inv (nwS_inv _) _ _ _).mono (by omega), (tkT_inv (nwS_inv _) _).mono (by omega), .inl ?_⟩
  kernel_rfl
theorem tup_nil : (0 : Nat) < 9223372036854775807 := by omega
theorem lvA : HSpec P G 11 [.loc 0 0, .int .i64 1, tcpV 0 0 100 0 2 0 0 [] []] (cnN 0 lH lH) (.list evT []) (cnN 1 lH1 lH) := by
  have := f11_n1 0 lH lH 0 0 100 0 2 0 0 [] [] (by decide) (by decide) (by decide) (by kernel_rfl)
  rw [show sgN1 0 lH lH 100 0 2 [] [] = ([], 1, lH1) by kernel_rfl] at this
  exact this
theorem lvB : HSpec P G 11 [.loc 0 0, .int .i64 2, tcpV 0 0 300 101 18 0 0 [] []] (cnN 1 lH1 lH) (.list evT []) (cnN 2 lH1 lH2) := by
  have := f11_n2 1 lH1 lH 0 0 300 101 18 0 0 [] [] (by decide) (by decide) (by decide)
  rw [show sgN2 1 lH1 lH 300 101 18 [] = ([], 2, lH2) by kernel_rfl] at this
  exact this
theorem lvC : HSpec P G 11 [.loc 0 0, .int .i64 1, tcpV 0 0 101 301 16 0 0 [] []] (cnN 2 lH1 lH2) (.list evT [(1, 1, 0, 0, [], ())]) (esZ 300 301 2 lH1 lH2 101 301 16 [] []) := by
  have := f11_a 2 lH1 lH2 0 0 101 301 16 0 0 [] [] (by decide) (by decide) (by decide) (by kernel_rfl)
  rw [show tkE 1 2 (nwS lH1) (nwS lH2) 101 301 16 [] = [] by kernel_rfl] at this
  exact this
theorem lvD (i j k : Nat) (hn : [i, j, k].Nodup) : HSpec P G 11 [.loc i 0, .int .i64 1, tcpV 0 0 103 301 16 0 0 [] [99]] (cnU lv3 i j k) (.list evT []) (cnU lv4 i j k) := by
  have := f11_u lv3 8192 lvI3 (by decide) (by decide) 1 0 0 103 301 16 0 0 [] [99] (by decide) (by decide)
  rw [show (segC 1 lv3 103 301 16 [] [99]).1 = [] by kernel_rfl] at this
  exact at_U this i j k hn rfl rfl
theorem lvI4 : CInv lv4 16384 := by
  have e : lv4.ss = some (tkS (tkS (nwS lH1) 101 16 []) 103 16 [99], tkT (tkT (nwS lH2) 301) 301) := by kernel_rfl
  unfold CInv
  rw [e]
  refine ⟨(tkS_inv (tkS_inv (nwS_inv _) _ _ _) _ _ _).mono (by omega), (tkT_inv (tkT_inv (nwS_inv _) _) _).mono (by omega), .inl ?_⟩
  kernel_rfl
theorem lvE (i j k : Nat) (hn : [i, j, k].Nodup) : HSpec P G 11 [.loc i 0, .int .i64 1, tcpV 0 0 101 301 16 0 0 [] [97, 98]] (cnU lv4 i j k) (.list evT [(2, 1, 0, 0, [97, 98, 99], ())]) (cnU lv5 i j k) := by
  have := f11_u lv4 16384 lvI4 (by decide) (by decide) 1 0 0 101 301 16 0 0 [] [97, 98] (by decide) (by decide)
  rw [show (segC 1 lv4 101 301 16 [] [97, 98]).1 = [(2, 1, 0, 0, [97, 98, 99], ())] by kernel_rfl] at this
  exact at_U this i j k hn rfl rfl
theorem lvI5 : CInv lv5 24576 := by
  have e : lv5.ss = some (tkS (tkS (tkS (nwS lH1) 101 16 []) 103 16 [99]) 101 16 [97, 98], tkT (tkT (tkT (nwS lH2) 301) 301) 301) := by kernel_rfl
  unfold CInv
  rw [e]
  refine ⟨(tkS_inv (tkS_inv (tkS_inv (nwS_inv _) _ _ _) _ _ _) _ _ _).mono (by omega), (tkT_inv (tkT_inv (tkT_inv (nwS_inv _) _) _) _).mono (by omega), .inl ?_⟩
  kernel_rfl
theorem lvV (i j k : Nat) (hn : [i, j, k].Nodup) : HSpec P G 16 [.loc i 0, .int .i64 1] (cnU lv3 i j k) (viewV true 101 301 100 false 0) (cnU lv3 i j k) := by
  have := f16_u1 lv3 8192 lvI3
  rw [show vwC lv3 1 = (true, 101, 301, 100, false, 0) by kernel_rfl] at this
  exact at_U this i j k hn rfl rfl
theorem lvS4 (i j k : Nat) (hn : [i, j, k].Nodup) : HSpec P G 14 [.loc i 0] (cnU lv4 i j k) (.int .i64 1) (cnU lv4 i j k) := by
  have := f14_u lv4 16384 lvI4
  rw [show sizC lv4 = 1 by kernel_rfl] at this
  exact at_U this i j k hn rfl rfl
theorem lvS5 (i j k : Nat) (hn : [i, j, k].Nodup) : HSpec P G 14 [.loc i 0] (cnU lv5 i j k) (.int .i64 0) (cnU lv5 i j k) := by
  have := f14_u lv5 24576 lvI5
  rw [show sizC lv5 = 0 by kernel_rfl] at this
  exact at_U this i j k hn rfl rfl
theorem lvT5 (i j k : Nat) (hn : [i, j, k].Nodup) : HSpec P G 12 [.loc i 0] (cnU lv5 i j k) (.int .i64 3) (cnU lv5 i j k) := by
  have := f12_u lv5
  rw [show lv5.st = 3 by kernel_rfl] at this
  exact at_U this i j k hn rfl rfl
theorem lvO5 (i j k : Nat) (hn : [i, j, k].Nodup) : HSpec P G 13 [.loc i 0, .int .i64 1] (cnU lv5 i j k) (.int .i64 3) (cnU lv5 i j k) := by
  have := f13_u1 lv5
  rw [show offC lv5 1 = 3 by kernel_rfl] at this
  exact at_U this i j k hn rfl rfl
end Go.Proofs.YtchiagnggnblaaaDoor.Ac

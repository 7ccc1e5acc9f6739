import Derived.Test.YtchiagnggnblaaaGreatDoorSgD
import Derived.Test.YtchiagnggnblaaaGreatDoorGFw5
import Derived.Test.YtchiagnggnblaaaGreatDoorRows
import Derived.LaidLaws
import Derived.Handed
import Derived.SevenTiedAt
import Derived.ProofKit
set_option linter.all false
namespace Go.Proofs.YtchiagnggnblaaaGreatDoor.Fx
open Go Go.Fw Go.ChangeShapes Go.WideShapes Go.ChangeAt Go.RowKit Go.Proofs.YtchiagnggnblaaaGreatDoor.Ac
theorem own:ownKnob Tryz.prog.godebug = none:=by kernel_rfl
theorem laidOut:laidOutB Tryz.prog = true:=by kernel_rfl
theorem gN : Tryz.prog.globalNamed "intrusion/accept.impossible" = some 0 := by kernel_rfl
theorem gT:(Tryz.prog.globals[0]?).map (·.type) = some 77:=by kernel_rfl
abbrev theLaid : List (String × DataW Unit) := [("intrusion/accept.impossible", Rows.laid_intrusion_accept_impossible)]
theorem gl_of_laid {W:World} (h:laidMet Tryz.prog theLaid W):GlOK G (fun _=>none) (RW W) W:=by
  obtain ⟨ps,⟨g,t,cs,fuel,p,q,hg,ht,hvar,hd,_,_⟩,_⟩:=h
  obtain rfl:=Option.some.inj (gN.symm.trans hg)
  obtain rfl:=Option.some.inj (gT.symm.trans ht)
  have hr:=laid_ints (ns:=[3,6]) (k:=.i64) Tryz.underlying77 (by kernel_rfl) Tryz.underlying3 (by simp) hd
  have hr':=hr
  simp only [Rep] at hr'
  obtain ⟨pp,cap,hcs,_⟩:=hr'
  have hc:W.cell? ⟨0,0,none⟩ = some (.slice pp 2 cap):=by
    have:=World.var?_cell hg hvar 0
    rw [this]
    obtain ⟨l⟩:=cs
    simp only at hcs
    rw [hcs]
    rfl
  rw [hcs] at hr
  exact glOK_one (cell_spot hc).1 hc (by simp only [RepV];exact hr) (fun id=>by simp [AV.hasAny,AV.has])
noncomputable def low:Nat:=(World.holding Tryz.prog default ⟨#[],#[],[]⟩).heap.size
noncomputable def laidWorld (os:Os):World:=
  let w0:=World.holding Tryz.prog os ⟨#[.cells #[.int .i64 3,.int .i64 6] 3],#[],[]⟩
  { w0 with heap:=w0.heap.modify 0 fun
      | .cells _ t frozen=>.cells #[.slice (some ⟨low,0,none⟩) 2 2] t frozen
      | o=>o }
theorem laid_met (os:Os) (args:Array Value):laidMet Tryz.prog theLaid ((laidWorld os).forCall (fun _ _=>0) ⟨#[],args,[]⟩).memory:=
  laidMet_of_run (ps:=[.cell 0 0,.cell low 0,.cell low 1]) 8 (by kernel_rfl) (by kernel_rfl) (by kernel_rfl)
theorem len_ok {t:Ty} {xs:List t.D} (h:Fw.Good (.list t) xs):xs.length≤140737488351232:=by
  have:=h.1
  omega
theorem u32_of {x:Int} (h:(Lit.int .u32 x).wf = true):0≤x∧x < 4294967296:=by
  simp [Lit.wf,IntKind.min,IntKind.max,IntKind.signed,IntKind.bits] at h
  omega
end Go.Proofs.YtchiagnggnblaaaGreatDoor.Fx

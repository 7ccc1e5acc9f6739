-- Written by a program of the proof's own workplace (gprint.py over the kit's print): a function and its contract.
-- SQUEEZED
import Derived.Test.YtjdjgabahkcjeaaPx0
import Derived.Test.YtjdjgabahkcjeaaPx3
import Derived.Test.YtjdjgabahkcjeaaPx4
import Derived.Test.YtjdjgabahkcjeaaPx5
namespace Go.Proofs.Ytjdjgabahkcjeaa.P
open Go.RowKit Go.Proofs.YtjdjgabahkcjeaaW.PrintWords Go.Proofs.YtjdjgabahkcjeaaW.PrintLast Go.Proofs.YtjdjgabahkcjeaaW.PrintMore
attribute [local go_sem] max2_int min2_int max_two min_two max_three min_three max_four min_four   -- for this text's walks alone
set_option linter.unusedVariables false
set_option linter.unusedSimpArgs false

/-! ### overlap_Insert: function 15 -/
mutual
def overlap_Insert.j6 : Nat→List (S23)→Int→List (S23)→Int→Int→Int→Int→ByteArray→Int→Int→Option ((List (S23)) × Int × Int)
 | 0,_,_,_,_,_,_,_,_,_,_=>none
 | k + 1,x0,x2,x9,x10,x11,x12,x131000,x131001,x131002,x131003=>if x12 < x131003 then ((overlap_part.f x131000 x131001 x131002 x131003 x12 x131003).bind fun bt199=>((overlap_join.f x9 bt199.1 bt199.2.1 bt199.2.2.1 bt199.2.2.2).bind fun t203=>(overlap_Insert.j7 k x0 x2 t203 x10 x11 x131000 x131001 x131002 x131003))) else (overlap_Insert.j7 k x0 x2 x9 x10 x11 x131000 x131001 x131002 x131003)
def overlap_Insert.j7 : Nat→List (S23)→Int→List (S23)→Int→Int→Int→ByteArray→Int→Int→Option ((List (S23)) × Int × Int)
 | 0,_,_,_,_,_,_,_,_,_=>none
 | k + 1,x0,x2,x9,x10,x11,x131000,x131001,x131002,x131003=>if x2 = 5 then (overlap_Insert.j8 k x0 x9 x10 x11 (decide (x11 > 0)) x131000 x131001 x131002 x131003) else (overlap_Insert.j8 k x0 x9 x10 x11 false x131000 x131001 x131002 x131003)
def overlap_Insert.j8 : Nat→List (S23)→List (S23)→Int→Int→Bool→Int→ByteArray→Int→Int→Option ((List (S23)) × Int × Int)
 | 0,_,_,_,_,_,_,_,_,_=>none
 | k + 1,x0,x9,x10,x11,x186,x131000,x131001,x131002,x131003=>if x186 = true then (if x11 = (x131001.size : Int) then (overlap_Insert.j9 k x0 (x10 == 0)) else (overlap_Insert.j9 k x0 false)) else (if (x9.length : Int) > 64 then (some (([] : List (S23)),0,11)) else (some (x9,x10,0)))
def overlap_Insert.j9 : Nat→List (S23)→Bool→Option ((List (S23)) × Int × Int)
 | 0,_,_=>none
 | k + 1,x0,x195=>if x195 = true then ((api_Piece.f x0).bind fun t206=>(some (t206,0,0))) else (some (([] : List (S23)),0,17))
def overlap_Insert.l0 : Nat→List (S23)→Int→List (S23)→Int→Int→Int→List (S23)→Int→Int→Int→ByteArray→Int→Int→Option ((List (S23)) × Int × Int)
 | 0,_,_,_,_,_,_,_,_,_,_,_,_,_=>none
 | k + 1,x0,x2,x9,x10,x11,x12,x52,x53,x54,x131000,x131001,x131002,x131003=>if x54 < x53 then (if 0≤x54 then (if x54 < (x52.length : Int) then ((overlap_end.f ((rd_T23 x52 x54).f0) ((rd_T23 x52 x54).f1) ((rd_T23 x52 x54).f2) ((rd_T23 x52 x54).f3)).bind fun t137=>(if t137≤x131000 then ((overlap_join.f x9 ((rd_T23 x52 x54).f0) ((rd_T23 x52 x54).f1) ((rd_T23 x52 x54).f2) ((rd_T23 x52 x54).f3)).bind fun t138=>(overlap_Insert.l0 k x0 x2 t138 x10 x11 x12 x52 x53 (wrap64 (x54 + 1)) x131000 x131001 x131002 x131003)) else (if ((rd_T23 x52 x54).f0)≥x131003 then (if x12 < x131003 then ((overlap_part.f x131000 x131001 x131002 x131003 x12 x131003).bind fun bt141=>((overlap_join.f x9 bt141.1 bt141.2.1 bt141.2.2.1 bt141.2.2.2).bind fun t145=>(overlap_Insert.j1 k x0 x2 t145 x10 x11 x131003 x54 x131000 x131001 x131002 x131003))) else (overlap_Insert.j1 k x0 x2 x9 x10 x11 x12 x54 x131000 x131001 x131002 x131003)) else ((overlap_end.f ((rd_T23 x52 x54).f0) ((rd_T23 x52 x54).f1) ((rd_T23 x52 x54).f2) ((rd_T23 x52 x54).f3)).bind fun t157=>(if ((rd_T23 x52 x54).f0) < (mx ((rd_T23 x52 x54).f0) x131000) then ((overlap_part.f ((rd_T23 x52 x54).f0) ((rd_T23 x52 x54).f1) ((rd_T23 x52 x54).f2) ((rd_T23 x52 x54).f3) ((rd_T23 x52 x54).f0) (mx ((rd_T23 x52 x54).f0) x131000)).bind fun bt158=>((overlap_join.f x9 bt158.1 bt158.2.1 bt158.2.2.1 bt158.2.2.2).bind fun t162=>(overlap_Insert.j3 k x0 x2 t162 x10 x11 x12 (mx ((rd_T23 x52 x54).f0) x131000) (mn t157 x131003) x52 x53 x54 x131000 x131001 x131002 x131003 ((rd_T23 x52 x54).f0) ((rd_T23 x52 x54).f1) ((rd_T23 x52 x54).f2) ((rd_T23 x52 x54).f3)))) else (overlap_Insert.j3 k x0 x2 x9 x10 x11 x12 (mx ((rd_T23 x52 x54).f0) x131000) (mn t157 x131003) x52 x53 x54 x131000 x131001 x131002 x131003 ((rd_T23 x52 x54).f0) ((rd_T23 x52 x54).f1) ((rd_T23 x52 x54).f2) ((rd_T23 x52 x54).f3))))))) else (none)) else (none)) else (overlap_Insert.j6 k x0 x2 x9 x10 x11 x12 x131000 x131001 x131002 x131003)
def overlap_Insert.j1 : Nat→List (S23)→Int→List (S23)→Int→Int→Int→Int→Int→ByteArray→Int→Int→Option ((List (S23)) × Int × Int)
 | 0,_,_,_,_,_,_,_,_,_,_,_=>none
 | k + 1,x0,x2,x9,x10,x11,x12,x13,x131000,x131001,x131002,x131003=>if 0≤x13 then (if x13≤(x0.length : Int) then ((some (x0.drop (x13 : Int).toNat : List (S23))).bind fun y148=>(overlap_Insert.l1 k x0 x2 x9 x10 x11 x12 y148 (y148.length : Int) 0 x131000 x131001 x131002 x131003)) else (none)) else (none)
def overlap_Insert.l1 : Nat→List (S23)→Int→List (S23)→Int→Int→Int→List (S23)→Int→Int→Int→ByteArray→Int→Int→Option ((List (S23)) × Int × Int)
 | 0,_,_,_,_,_,_,_,_,_,_,_,_,_=>none
 | k + 1,x0,x2,x9,x10,x11,x12,x87,x88,x89,x131000,x131001,x131002,x131003=>if x89 < x88 then (if 0≤x89 then (if x89 < (x87.length : Int) then ((overlap_join.f x9 ((rd_T23 x87 x89).f0) ((rd_T23 x87 x89).f1) ((rd_T23 x87 x89).f2) ((rd_T23 x87 x89).f3)).bind fun t154=>(overlap_Insert.l1 k x0 x2 t154 x10 x11 x12 x87 x88 (wrap64 (x89 + 1)) x131000 x131001 x131002 x131003)) else (none)) else (none)) else (overlap_Insert.j6 k x0 x2 x9 x10 x11 x12 x131000 x131001 x131002 x131003)
def overlap_Insert.j3 : Nat→List (S23)→Int→List (S23)→Int→Int→Int→Int→Int→List (S23)→Int→Int→Int→ByteArray→Int→Int→Int→ByteArray→Int→Int→Option ((List (S23)) × Int × Int)
 | 0,_,_,_,_,_,_,_,_,_,_,_,_,_,_,_,_,_,_,_=>none
 | k + 1,x0,x2,x9,x10,x11,x12,x17,x18,x52,x53,x54,x131000,x131001,x131002,x131003,x137000,x137001,x137002,x137003=>if x12 < x17 then ((overlap_part.f x131000 x131001 x131002 x131003 x12 x17).bind fun bt165=>((overlap_join.f x9 bt165.1 bt165.2.1 bt165.2.2.1 bt165.2.2.2).bind fun t169=>(overlap_Insert.j4 k x0 x2 t169 x10 x11 x17 x18 x52 x53 x54 x131000 x131001 x131002 x131003 x137000 x137001 x137002 x137003))) else (overlap_Insert.j4 k x0 x2 x9 x10 x11 x17 x18 x52 x53 x54 x131000 x131001 x131002 x131003 x137000 x137001 x137002 x137003)
def overlap_Insert.j4 : Nat→List (S23)→Int→List (S23)→Int→Int→Int→Int→List (S23)→Int→Int→Int→ByteArray→Int→Int→Int→ByteArray→Int→Int→Option ((List (S23)) × Int × Int)
 | 0,_,_,_,_,_,_,_,_,_,_,_,_,_,_,_,_,_,_=>none
 | k + 1,x0,x2,x9,x10,x11,x17,x18,x52,x53,x54,x131000,x131001,x131002,x131003,x137000,x137001,x137002,x137003=>(overlap_part.f x137000 x137001 x137002 x137003 x17 x18).bind fun bt172=>((overlap_part.f x131000 x131001 x131002 x131003 x17 x18).bind fun bt176=>((overlap_differ.f k bt172.2.1 bt176.2.1).bind fun t182=>((overlap_Wins.f x2 x137000 x137001 x137002 x137003 x131000 x131001 x131002 x131003).bind fun t183=>(if t183 = true then ((overlap_join.f x9 bt176.1 bt176.2.1 bt176.2.2.1 bt176.2.2.2).bind fun t184=>(overlap_Insert.j5 k x0 x2 t184 (wrap64 (x10 + t182)) (wrap64 (x11 + (wrap64 (x18 - x17)))) x18 x52 x53 x54 x131000 x131001 x131002 x131003 x137000 x137001 x137002 x137003)) else ((overlap_join.f x9 bt172.1 bt172.2.1 bt172.2.2.1 bt172.2.2.2).bind fun t187=>(overlap_Insert.j5 k x0 x2 t187 (wrap64 (x10 + t182)) (wrap64 (x11 + (wrap64 (x18 - x17)))) x18 x52 x53 x54 x131000 x131001 x131002 x131003 x137000 x137001 x137002 x137003))))))
def overlap_Insert.j5 : Nat→List (S23)→Int→List (S23)→Int→Int→Int→List (S23)→Int→Int→Int→ByteArray→Int→Int→Int→ByteArray→Int→Int→Option ((List (S23)) × Int × Int)
 | 0,_,_,_,_,_,_,_,_,_,_,_,_,_,_,_,_,_=>none
 | k + 1,x0,x2,x9,x10,x11,x18,x52,x53,x54,x131000,x131001,x131002,x131003,x137000,x137001,x137002,x137003=>(overlap_end.f x137000 x137001 x137002 x137003).bind fun t190=>(if x18 < t190 then ((overlap_end.f x137000 x137001 x137002 x137003).bind fun t191=>((overlap_part.f x137000 x137001 x137002 x137003 x18 t191).bind fun bt192=>((overlap_join.f x9 bt192.1 bt192.2.1 bt192.2.2.1 bt192.2.2.2).bind fun t196=>(overlap_Insert.l0 k x0 x2 t196 x10 x11 x18 x52 x53 (wrap64 (x54 + 1)) x131000 x131001 x131002 x131003)))) else (overlap_Insert.l0 k x0 x2 x9 x10 x11 x18 x52 x53 (wrap64 (x54 + 1)) x131000 x131001 x131002 x131003))
end
def overlap_Insert.f (k : Nat) (l0 : List (S23)) (a1_0 : Int) (a1_1 : ByteArray) (a1_2 : Int) (a1_3 : Int) (a2 : Int) : Option ((List (S23)) × Int × Int):=if a1_1.toList = ([] : List UInt8) then ((api_Piece.f l0).bind fun t131=>(some (t131,0,0))) else (if a1_0 < 0 then (some (([] : List (S23)),0,4)) else (if a1_0 > 2147483648 then (some (([] : List (S23)),0,4)) else (if a2 < 1 then (some (([] : List (S23)),0,4)) else (if a2 > 5 then (some (([] : List (S23)),0,4)) else ((overlap_end.f a1_0 a1_1 a1_2 a1_3).bind fun t134=>(overlap_Insert.l0 k l0 a2 ([] : List (S23)) 0 0 a1_0 l0 (l0.length : Int) 0 a1_0 a1_1 a1_0 t134))))))
theorem overlap_Insert.mono_l : ∀ k,(∀ y0 y1 y2 y3 y4 y5 y6 y7 y8 y9,LeO (overlap_Insert.j6 k y0 y1 y2 y3 y4 y5 y6 y7 y8 y9) (overlap_Insert.j6 (k + 1) y0 y1 y2 y3 y4 y5 y6 y7 y8 y9))∧(∀ y0 y1 y2 y3 y4 y5 y6 y7 y8,LeO (overlap_Insert.j7 k y0 y1 y2 y3 y4 y5 y6 y7 y8) (overlap_Insert.j7 (k + 1) y0 y1 y2 y3 y4 y5 y6 y7 y8))∧(∀ y0 y1 y2 y3 y4 y5 y6 y7 y8,LeO (overlap_Insert.j8 k y0 y1 y2 y3 y4 y5 y6 y7 y8) (overlap_Insert.j8 (k + 1) y0 y1 y2 y3 y4 y5 y6 y7 y8))∧(∀ y0 y1,LeO (overlap_Insert.j9 k y0 y1) (overlap_Insert.j9 (k + 1) y0 y1))∧(∀ y0 y1 y2 y3 y4 y5 y6 y7 y8 y9 y10 y11 y12,LeO (overlap_Insert.l0 k y0 y1 y2 y3 y4 y5 y6 y7 y8 y9 y10 y11 y12) (overlap_Insert.l0 (k + 1) y0 y1 y2 y3 y4 y5 y6 y7 y8 y9 y10 y11 y12))∧(∀ y0 y1 y2 y3 y4 y5 y6 y7 y8 y9 y10,LeO (overlap_Insert.j1 k y0 y1 y2 y3 y4 y5 y6 y7 y8 y9 y10) (overlap_Insert.j1 (k + 1) y0 y1 y2 y3 y4 y5 y6 y7 y8 y9 y10))∧(∀ y0 y1 y2 y3 y4 y5 y6 y7 y8 y9 y10 y11 y12,LeO (overlap_Insert.l1 k y0 y1 y2 y3 y4 y5 y6 y7 y8 y9 y10 y11 y12) (overlap_Insert.l1 (k + 1) y0 y1 y2 y3 y4 y5 y6 y7 y8 y9 y10 y11 y12))∧(∀ y0 y1 y2 y3 y4 y5 y6 y7 y8 y9 y10 y11 y12 y13 y14 y15 y16 y17 y18,LeO (overlap_Insert.j3 k y0 y1 y2 y3 y4 y5 y6 y7 y8 y9 y10 y11 y12 y13 y14 y15 y16 y17 y18) (overlap_Insert.j3 (k + 1) y0 y1 y2 y3 y4 y5 y6 y7 y8 y9 y10 y11 y12 y13 y14 y15 y16 y17 y18))∧(∀ y0 y1 y2 y3 y4 y5 y6 y7 y8 y9 y10 y11 y12 y13 y14 y15 y16 y17,LeO (overlap_Insert.j4 k y0 y1 y2 y3 y4 y5 y6 y7 y8 y9 y10 y11 y12 y13 y14 y15 y16 y17) (overlap_Insert.j4 (k + 1) y0 y1 y2 y3 y4 y5 y6 y7 y8 y9 y10 y11 y12 y13 y14 y15 y16 y17))∧(∀ y0 y1 y2 y3 y4 y5 y6 y7 y8 y9 y10 y11 y12 y13 y14 y15 y16,LeO (overlap_Insert.j5 k y0 y1 y2 y3 y4 y5 y6 y7 y8 y9 y10 y11 y12 y13 y14 y15 y16) (overlap_Insert.j5 (k + 1) y0 y1 y2 y3 y4 y5 y6 y7 y8 y9 y10 y11 y12 y13 y14 y15 y16))
 | 0=>⟨fun _ _ _ _ _ _ _ _ _ _ r h=>by simp [overlap_Insert.j6] at h,fun _ _ _ _ _ _ _ _ _ r h=>by simp [overlap_Insert.j7] at h,fun _ _ _ _ _ _ _ _ _ r h=>by simp [overlap_Insert.j8] at h,fun _ _ r h=>by simp [overlap_Insert.j9] at h,fun _ _ _ _ _ _ _ _ _ _ _ _ _ r h=>by simp [overlap_Insert.l0] at h,fun _ _ _ _ _ _ _ _ _ _ _ r h=>by simp [overlap_Insert.j1] at h,fun _ _ _ _ _ _ _ _ _ _ _ _ _ r h=>by simp [overlap_Insert.l1] at h,fun _ _ _ _ _ _ _ _ _ _ _ _ _ _ _ _ _ _ _ r h=>by simp [overlap_Insert.j3] at h,fun _ _ _ _ _ _ _ _ _ _ _ _ _ _ _ _ _ _ r h=>by simp [overlap_Insert.j4] at h,fun _ _ _ _ _ _ _ _ _ _ _ _ _ _ _ _ _ r h=>by simp [overlap_Insert.j5] at h⟩
 | k + 1=>by
  obtain ⟨ih0,ih1,ih2,ih3,ih4,ih5,ih6,ih7,ih8,ih9⟩:=overlap_Insert.mono_l k;refine ⟨?_,?_,?_,?_,?_,?_,?_,?_,?_,?_⟩
  ·
   intro y0 y1 y2 y3 y4 y5 y6 y7 y8 y9;unfold overlap_Insert.j6
   repeat' first
   | (with_reducible exact ih0 _ _ _ _ _ _ _ _ _ _)
   | (with_reducible exact ih1 _ _ _ _ _ _ _ _ _)
   | (with_reducible exact ih2 _ _ _ _ _ _ _ _ _)
   | (with_reducible exact ih3 _ _)
   | (with_reducible exact ih4 _ _ _ _ _ _ _ _ _ _ _ _ _)
   | (with_reducible exact ih5 _ _ _ _ _ _ _ _ _ _ _)
   | (with_reducible exact ih6 _ _ _ _ _ _ _ _ _ _ _ _ _)
   | (with_reducible exact ih7 _ _ _ _ _ _ _ _ _ _ _ _ _ _ _ _ _ _ _)
   | (with_reducible exact ih8 _ _ _ _ _ _ _ _ _ _ _ _ _ _ _ _ _ _)
   | (with_reducible exact ih9 _ _ _ _ _ _ _ _ _ _ _ _ _ _ _ _ _)
   | (with_reducible exact overlap_differ.mono _ _ _)
   | (with_reducible exact LeO.refl _)
   | (with_reducible exact LeO.none _)
   | (with_reducible refine LeO.ite ?_ ?_)
   | (with_reducible refine LeO.bind ?_ (fun _=>?_))
   | exact ih0 _ _ _ _ _ _ _ _ _ _
   | exact ih1 _ _ _ _ _ _ _ _ _
   | exact ih2 _ _ _ _ _ _ _ _ _
   | exact ih3 _ _
   | exact ih4 _ _ _ _ _ _ _ _ _ _ _ _ _
   | exact ih5 _ _ _ _ _ _ _ _ _ _ _
   | exact ih6 _ _ _ _ _ _ _ _ _ _ _ _ _
   | exact ih7 _ _ _ _ _ _ _ _ _ _ _ _ _ _ _ _ _ _ _
   | exact ih8 _ _ _ _ _ _ _ _ _ _ _ _ _ _ _ _ _ _
   | exact ih9 _ _ _ _ _ _ _ _ _ _ _ _ _ _ _ _ _
   | exact overlap_differ.mono _ _ _
   | exact LeO.none _
   | refine LeO.ite ?_ ?_
   | refine LeO.bind ?_ (fun _=>?_)
  ·
   intro y0 y1 y2 y3 y4 y5 y6 y7 y8;unfold overlap_Insert.j7
   repeat' first
   | (with_reducible exact ih0 _ _ _ _ _ _ _ _ _ _)
   | (with_reducible exact ih1 _ _ _ _ _ _ _ _ _)
   | (with_reducible exact ih2 _ _ _ _ _ _ _ _ _)
   | (with_reducible exact ih3 _ _)
   | (with_reducible exact ih4 _ _ _ _ _ _ _ _ _ _ _ _ _)
   | (with_reducible exact ih5 _ _ _ _ _ _ _ _ _ _ _)
   | (with_reducible exact ih6 _ _ _ _ _ _ _ _ _ _ _ _ _)
   | (with_reducible exact ih7 _ _ _ _ _ _ _ _ _ _ _ _ _ _ _ _ _ _ _)
   | (with_reducible exact ih8 _ _ _ _ _ _ _ _ _ _ _ _ _ _ _ _ _ _)
   | (with_reducible exact ih9 _ _ _ _ _ _ _ _ _ _ _ _ _ _ _ _ _)
   | (with_reducible exact overlap_differ.mono _ _ _)
   | (with_reducible exact LeO.refl _)
   | (with_reducible exact LeO.none _)
   | (with_reducible refine LeO.ite ?_ ?_)
   | (with_reducible refine LeO.bind ?_ (fun _=>?_))
   | exact ih0 _ _ _ _ _ _ _ _ _ _
   | exact ih1 _ _ _ _ _ _ _ _ _
   | exact ih2 _ _ _ _ _ _ _ _ _
   | exact ih3 _ _
   | exact ih4 _ _ _ _ _ _ _ _ _ _ _ _ _
   | exact ih5 _ _ _ _ _ _ _ _ _ _ _
   | exact ih6 _ _ _ _ _ _ _ _ _ _ _ _ _
   | exact ih7 _ _ _ _ _ _ _ _ _ _ _ _ _ _ _ _ _ _ _
   | exact ih8 _ _ _ _ _ _ _ _ _ _ _ _ _ _ _ _ _ _
   | exact ih9 _ _ _ _ _ _ _ _ _ _ _ _ _ _ _ _ _
   | exact overlap_differ.mono _ _ _
   | exact LeO.none _
   | refine LeO.ite ?_ ?_
   | refine LeO.bind ?_ (fun _=>?_)
  ·
   intro y0 y1 y2 y3 y4 y5 y6 y7 y8;unfold overlap_Insert.j8
   repeat' first
   | (with_reducible exact ih0 _ _ _ _ _ _ _ _ _ _)
   | (with_reducible exact ih1 _ _ _ _ _ _ _ _ _)
   | (with_reducible exact ih2 _ _ _ _ _ _ _ _ _)
   | (with_reducible exact ih3 _ _)
   | (with_reducible exact ih4 _ _ _ _ _ _ _ _ _ _ _ _ _)
   | (with_reducible exact ih5 _ _ _ _ _ _ _ _ _ _ _)
   | (with_reducible exact ih6 _ _ _ _ _ _ _ _ _ _ _ _ _)
   | (with_reducible exact ih7 _ _ _ _ _ _ _ _ _ _ _ _ _ _ _ _ _ _ _)
   | (with_reducible exact ih8 _ _ _ _ _ _ _ _ _ _ _ _ _ _ _ _ _ _)
   | (with_reducible exact ih9 _ _ _ _ _ _ _ _ _ _ _ _ _ _ _ _ _)
   | (with_reducible exact overlap_differ.mono _ _ _)
   | (with_reducible exact LeO.refl _)
   | (with_reducible exact LeO.none _)
   | (with_reducible refine LeO.ite ?_ ?_)
   | (with_reducible refine LeO.bind ?_ (fun _=>?_))
   | exact ih0 _ _ _ _ _ _ _ _ _ _
   | exact ih1 _ _ _ _ _ _ _ _ _
   | exact ih2 _ _ _ _ _ _ _ _ _
   | exact ih3 _ _
   | exact ih4 _ _ _ _ _ _ _ _ _ _ _ _ _
   | exact ih5 _ _ _ _ _ _ _ _ _ _ _
   | exact ih6 _ _ _ _ _ _ _ _ _ _ _ _ _
   | exact ih7 _ _ _ _ _ _ _ _ _ _ _ _ _ _ _ _ _ _ _
   | exact ih8 _ _ _ _ _ _ _ _ _ _ _ _ _ _ _ _ _ _
   | exact ih9 _ _ _ _ _ _ _ _ _ _ _ _ _ _ _ _ _
   | exact overlap_differ.mono _ _ _
   | exact LeO.none _
   | refine LeO.ite ?_ ?_
   | refine LeO.bind ?_ (fun _=>?_)
  ·
   intro y0 y1;unfold overlap_Insert.j9
   repeat' first
   | (with_reducible exact ih0 _ _ _ _ _ _ _ _ _ _)
   | (with_reducible exact ih1 _ _ _ _ _ _ _ _ _)
   | (with_reducible exact ih2 _ _ _ _ _ _ _ _ _)
   | (with_reducible exact ih3 _ _)
   | (with_reducible exact ih4 _ _ _ _ _ _ _ _ _ _ _ _ _)
   | (with_reducible exact ih5 _ _ _ _ _ _ _ _ _ _ _)
   | (with_reducible exact ih6 _ _ _ _ _ _ _ _ _ _ _ _ _)
   | (with_reducible exact ih7 _ _ _ _ _ _ _ _ _ _ _ _ _ _ _ _ _ _ _)
   | (with_reducible exact ih8 _ _ _ _ _ _ _ _ _ _ _ _ _ _ _ _ _ _)
   | (with_reducible exact ih9 _ _ _ _ _ _ _ _ _ _ _ _ _ _ _ _ _)
   | (with_reducible exact overlap_differ.mono _ _ _)
   | (with_reducible exact LeO.refl _)
   | (with_reducible exact LeO.none _)
   | (with_reducible refine LeO.ite ?_ ?_)
   | (with_reducible refine LeO.bind ?_ (fun _=>?_))
   | exact ih0 _ _ _ _ _ _ _ _ _ _
   | exact ih1 _ _ _ _ _ _ _ _ _
   | exact ih2 _ _ _ _ _ _ _ _ _
   | exact ih3 _ _
   | exact ih4 _ _ _ _ _ _ _ _ _ _ _ _ _
   | exact ih5 _ _ _ _ _ _ _ _ _ _ _
   | exact ih6 _ _ _ _ _ _ _ _ _ _ _ _ _
   | exact ih7 _ _ _ _ _ _ _ _ _ _ _ _ _ _ _ _ _ _ _
   | exact ih8 _ _ _ _ _ _ _ _ _ _ _ _ _ _ _ _ _ _
   | exact ih9 _ _ _ _ _ _ _ _ _ _ _ _ _ _ _ _ _
   | exact overlap_differ.mono _ _ _
   | exact LeO.none _
   | refine LeO.ite ?_ ?_
   | refine LeO.bind ?_ (fun _=>?_)
  ·
   intro y0 y1 y2 y3 y4 y5 y6 y7 y8 y9 y10 y11 y12;unfold overlap_Insert.l0
   repeat' first
   | (with_reducible exact ih0 _ _ _ _ _ _ _ _ _ _)
   | (with_reducible exact ih1 _ _ _ _ _ _ _ _ _)
   | (with_reducible exact ih2 _ _ _ _ _ _ _ _ _)
   | (with_reducible exact ih3 _ _)
   | (with_reducible exact ih4 _ _ _ _ _ _ _ _ _ _ _ _ _)
   | (with_reducible exact ih5 _ _ _ _ _ _ _ _ _ _ _)
   | (with_reducible exact ih6 _ _ _ _ _ _ _ _ _ _ _ _ _)
   | (with_reducible exact ih7 _ _ _ _ _ _ _ _ _ _ _ _ _ _ _ _ _ _ _)
   | (with_reducible exact ih8 _ _ _ _ _ _ _ _ _ _ _ _ _ _ _ _ _ _)
   | (with_reducible exact ih9 _ _ _ _ _ _ _ _ _ _ _ _ _ _ _ _ _)
   | (with_reducible exact overlap_differ.mono _ _ _)
   | (with_reducible exact LeO.refl _)
   | (with_reducible exact LeO.none _)
   | (with_reducible refine LeO.ite ?_ ?_)
   | (with_reducible refine LeO.bind ?_ (fun _=>?_))
   | exact ih0 _ _ _ _ _ _ _ _ _ _
   | exact ih1 _ _ _ _ _ _ _ _ _
   | exact ih2 _ _ _ _ _ _ _ _ _
   | exact ih3 _ _
   | exact ih4 _ _ _ _ _ _ _ _ _ _ _ _ _
   | exact ih5 _ _ _ _ _ _ _ _ _ _ _
   | exact ih6 _ _ _ _ _ _ _ _ _ _ _ _ _
   | exact ih7 _ _ _ _ _ _ _ _ _ _ _ _ _ _ _ _ _ _ _
   | exact ih8 _ _ _ _ _ _ _ _ _ _ _ _ _ _ _ _ _ _
   | exact ih9 _ _ _ _ _ _ _ _ _ _ _ _ _ _ _ _ _
   | exact overlap_differ.mono _ _ _
   | exact LeO.none _
   | refine LeO.ite ?_ ?_
   | refine LeO.bind ?_ (fun _=>?_)
  ·
   intro y0 y1 y2 y3 y4 y5 y6 y7 y8 y9 y10;unfold overlap_Insert.j1
   repeat' first
   | (with_reducible exact ih0 _ _ _ _ _ _ _ _ _ _)
   | (with_reducible exact ih1 _ _ _ _ _ _ _ _ _)
   | (with_reducible exact ih2 _ _ _ _ _ _ _ _ _)
   | (with_reducible exact ih3 _ _)
   | (with_reducible exact ih4 _ _ _ _ _ _ _ _ _ _ _ _ _)
   | (with_reducible exact ih5 _ _ _ _ _ _ _ _ _ _ _)
   | (with_reducible exact ih6 _ _ _ _ _ _ _ _ _ _ _ _ _)
   | (with_reducible exact ih7 _ _ _ _ _ _ _ _ _ _ _ _ _ _ _ _ _ _ _)
   | (with_reducible exact ih8 _ _ _ _ _ _ _ _ _ _ _ _ _ _ _ _ _ _)
   | (with_reducible exact ih9 _ _ _ _ _ _ _ _ _ _ _ _ _ _ _ _ _)
   | (with_reducible exact overlap_differ.mono _ _ _)
   | (with_reducible exact LeO.refl _)
   | (with_reducible exact LeO.none _)
   | (with_reducible refine LeO.ite ?_ ?_)
   | (with_reducible refine LeO.bind ?_ (fun _=>?_))
   | exact ih0 _ _ _ _ _ _ _ _ _ _
   | exact ih1 _ _ _ _ _ _ _ _ _
   | exact ih2 _ _ _ _ _ _ _ _ _
   | exact ih3 _ _
   | exact ih4 _ _ _ _ _ _ _ _ _ _ _ _ _
   | exact ih5 _ _ _ _ _ _ _ _ _ _ _
   | exact ih6 _ _ _ _ _ _ _ _ _ _ _ _ _
   | exact ih7 _ _ _ _ _ _ _ _ _ _ _ _ _ _ _ _ _ _ _
   | exact ih8 _ _ _ _ _ _ _ _ _ _ _ _ _ _ _ _ _ _
   | exact ih9 _ _ _ _ _ _ _ _ _ _ _ _ _ _ _ _ _
   | exact overlap_differ.mono _ _ _
   | exact LeO.none _
   | refine LeO.ite ?_ ?_
   | refine LeO.bind ?_ (fun _=>?_)
  ·
   intro y0 y1 y2 y3 y4 y5 y6 y7 y8 y9 y10 y11 y12;unfold overlap_Insert.l1
   repeat' first
   | (with_reducible exact ih0 _ _ _ _ _ _ _ _ _ _)
   | (with_reducible exact ih1 _ _ _ _ _ _ _ _ _)
   | (with_reducible exact ih2 _ _ _ _ _ _ _ _ _)
   | (with_reducible exact ih3 _ _)
   | (with_reducible exact ih4 _ _ _ _ _ _ _ _ _ _ _ _ _)
   | (with_reducible exact ih5 _ _ _ _ _ _ _ _ _ _ _)
   | (with_reducible exact ih6 _ _ _ _ _ _ _ _ _ _ _ _ _)
   | (with_reducible exact ih7 _ _ _ _ _ _ _ _ _ _ _ _ _ _ _ _ _ _ _)
   | (with_reducible exact ih8 _ _ _ _ _ _ _ _ _ _ _ _ _ _ _ _ _ _)
   | (with_reducible exact ih9 _ _ _ _ _ _ _ _ _ _ _ _ _ _ _ _ _)
   | (with_reducible exact overlap_differ.mono _ _ _)
   | (with_reducible exact LeO.refl _)
   | (with_reducible exact LeO.none _)
   | (with_reducible refine LeO.ite ?_ ?_)
   | (with_reducible refine LeO.bind ?_ (fun _=>?_))
   | exact ih0 _ _ _ _ _ _ _ _ _ _
   | exact ih1 _ _ _ _ _ _ _ _ _
   | exact ih2 _ _ _ _ _ _ _ _ _
   | exact ih3 _ _
   | exact ih4 _ _ _ _ _ _ _ _ _ _ _ _ _
   | exact ih5 _ _ _ _ _ _ _ _ _ _ _
   | exact ih6 _ _ _ _ _ _ _ _ _ _ _ _ _
   | exact ih7 _ _ _ _ _ _ _ _ _ _ _ _ _ _ _ _ _ _ _
   | exact ih8 _ _ _ _ _ _ _ _ _ _ _ _ _ _ _ _ _ _
   | exact ih9 _ _ _ _ _ _ _ _ _ _ _ _ _ _ _ _ _
   | exact overlap_differ.mono _ _ _
   | exact LeO.none _
   | refine LeO.ite ?_ ?_
   | refine LeO.bind ?_ (fun _=>?_)
  ·
   intro y0 y1 y2 y3 y4 y5 y6 y7 y8 y9 y10 y11 y12 y13 y14 y15 y16 y17 y18;unfold overlap_Insert.j3
   repeat' first
   | (with_reducible exact ih0 _ _ _ _ _ _ _ _ _ _)
   | (with_reducible exact ih1 _ _ _ _ _ _ _ _ _)
   | (with_reducible exact ih2 _ _ _ _ _ _ _ _ _)
   | (with_reducible exact ih3 _ _)
   | (with_reducible exact ih4 _ _ _ _ _ _ _ _ _ _ _ _ _)
   | (with_reducible exact ih5 _ _ _ _ _ _ _ _ _ _ _)
   | (with_reducible exact ih6 _ _ _ _ _ _ _ _ _ _ _ _ _)
   | (with_reducible exact ih7 _ _ _ _ _ _ _ _ _ _ _ _ _ _ _ _ _ _ _)
   | (with_reducible exact ih8 _ _ _ _ _ _ _ _ _ _ _ _ _ _ _ _ _ _)
   | (with_reducible exact ih9 _ _ _ _ _ _ _ _ _ _ _ _ _ _ _ _ _)
   | (with_reducible exact overlap_differ.mono _ _ _)
   | (with_reducible exact LeO.refl _)
   | (with_reducible exact LeO.none _)
   | (with_reducible refine LeO.ite ?_ ?_)
   | (with_reducible refine LeO.bind ?_ (fun _=>?_))
   | exact ih0 _ _ _ _ _ _ _ _ _ _
   | exact ih1 _ _ _ _ _ _ _ _ _
   | exact ih2 _ _ _ _ _ _ _ _ _
   | exact ih3 _ _
   | exact ih4 _ _ _ _ _ _ _ _ _ _ _ _ _
   | exact ih5 _ _ _ _ _ _ _ _ _ _ _
   | exact ih6 _ _ _ _ _ _ _ _ _ _ _ _ _
   | exact ih7 _ _ _ _ _ _ _ _ _ _ _ _ _ _ _ _ _ _ _
   | exact ih8 _ _ _ _ _ _ _ _ _ _ _ _ _ _ _ _ _ _
   | exact ih9 _ _ _ _ _ _ _ _ _ _ _ _ _ _ _ _ _
   | exact overlap_differ.mono _ _ _
   | exact LeO.none _
   | refine LeO.ite ?_ ?_
   | refine LeO.bind ?_ (fun _=>?_)
  ·
   intro y0 y1 y2 y3 y4 y5 y6 y7 y8 y9 y10 y11 y12 y13 y14 y15 y16 y17;unfold overlap_Insert.j4
   repeat' first
   | (with_reducible exact ih0 _ _ _ _ _ _ _ _ _ _)
   | (with_reducible exact ih1 _ _ _ _ _ _ _ _ _)
   | (with_reducible exact ih2 _ _ _ _ _ _ _ _ _)
   | (with_reducible exact ih3 _ _)
   | (with_reducible exact ih4 _ _ _ _ _ _ _ _ _ _ _ _ _)
   | (with_reducible exact ih5 _ _ _ _ _ _ _ _ _ _ _)
   | (with_reducible exact ih6 _ _ _ _ _ _ _ _ _ _ _ _ _)
   | (with_reducible exact ih7 _ _ _ _ _ _ _ _ _ _ _ _ _ _ _ _ _ _ _)
   | (with_reducible exact ih8 _ _ _ _ _ _ _ _ _ _ _ _ _ _ _ _ _ _)
   | (with_reducible exact ih9 _ _ _ _ _ _ _ _ _ _ _ _ _ _ _ _ _)
   | (with_reducible exact overlap_differ.mono _ _ _)
   | (with_reducible exact LeO.refl _)
   | (with_reducible exact LeO.none _)
   | (with_reducible refine LeO.ite ?_ ?_)
   | (with_reducible refine LeO.bind ?_ (fun _=>?_))
   | exact ih0 _ _ _ _ _ _ _ _ _ _
   | exact ih1 _ _ _ _ _ _ _ _ _
   | exact ih2 _ _ _ _ _ _ _ _ _
   | exact ih3 _ _
   | exact ih4 _ _ _ _ _ _ _ _ _ _ _ _ _
   | exact ih5 _ _ _ _ _ _ _ _ _ _ _
   | exact ih6 _ _ _ _ _ _ _ _ _ _ _ _ _
   | exact ih7 _ _ _ _ _ _ _ _ _ _ _ _ _ _ _ _ _ _ _
   | exact ih8 _ _ _ _ _ _ _ _ _ _ _ _ _ _ _ _ _ _
   | exact ih9 _ _ _ _ _ _ _ _ _ _ _ _ _ _ _ _ _
   | exact overlap_differ.mono _ _ _
   | exact LeO.none _
   | refine LeO.ite ?_ ?_
   | refine LeO.bind ?_ (fun _=>?_)
  ·
   intro y0 y1 y2 y3 y4 y5 y6 y7 y8 y9 y10 y11 y12 y13 y14 y15 y16;unfold overlap_Insert.j5
   repeat' first
   | (with_reducible exact ih0 _ _ _ _ _ _ _ _ _ _)
   | (with_reducible exact ih1 _ _ _ _ _ _ _ _ _)
   | (with_reducible exact ih2 _ _ _ _ _ _ _ _ _)
   | (with_reducible exact ih3 _ _)
   | (with_reducible exact ih4 _ _ _ _ _ _ _ _ _ _ _ _ _)
   | (with_reducible exact ih5 _ _ _ _ _ _ _ _ _ _ _)
   | (with_reducible exact ih6 _ _ _ _ _ _ _ _ _ _ _ _ _)
   | (with_reducible exact ih7 _ _ _ _ _ _ _ _ _ _ _ _ _ _ _ _ _ _ _)
   | (with_reducible exact ih8 _ _ _ _ _ _ _ _ _ _ _ _ _ _ _ _ _ _)
   | (with_reducible exact ih9 _ _ _ _ _ _ _ _ _ _ _ _ _ _ _ _ _)
   | (with_reducible exact overlap_differ.mono _ _ _)
   | (with_reducible exact LeO.refl _)
   | (with_reducible exact LeO.none _)
   | (with_reducible refine LeO.ite ?_ ?_)
   | (with_reducible refine LeO.bind ?_ (fun _=>?_))
   | exact ih0 _ _ _ _ _ _ _ _ _ _
   | exact ih1 _ _ _ _ _ _ _ _ _
   | exact ih2 _ _ _ _ _ _ _ _ _
   | exact ih3 _ _
   | exact ih4 _ _ _ _ _ _ _ _ _ _ _ _ _
   | exact ih5 _ _ _ _ _ _ _ _ _ _ _
   | exact ih6 _ _ _ _ _ _ _ _ _ _ _ _ _
   | exact ih7 _ _ _ _ _ _ _ _ _ _ _ _ _ _ _ _ _ _ _
   | exact ih8 _ _ _ _ _ _ _ _ _ _ _ _ _ _ _ _ _ _
   | exact ih9 _ _ _ _ _ _ _ _ _ _ _ _ _ _ _ _ _
   | exact overlap_differ.mono _ _ _
   | exact LeO.none _
   | refine LeO.ite ?_ ?_
   | refine LeO.bind ?_ (fun _=>?_)
theorem overlap_Insert.mono : ∀ a0 a1 a2 a3 a4 a5 k,LeO (overlap_Insert.f k a0 a1 a2 a3 a4 a5) (overlap_Insert.f (k + 1) a0 a1 a2 a3 a4 a5):=by
 intro a0 a1 a2 a3 a4 a5 k;obtain ⟨ih0,ih1,ih2,ih3,ih4,ih5,ih6,ih7,ih8,ih9⟩:=overlap_Insert.mono_l k;unfold overlap_Insert.f
 repeat' first
   | (with_reducible exact ih0 _ _ _ _ _ _ _ _ _ _)
   | (with_reducible exact ih1 _ _ _ _ _ _ _ _ _)
   | (with_reducible exact ih2 _ _ _ _ _ _ _ _ _)
   | (with_reducible exact ih3 _ _)
   | (with_reducible exact ih4 _ _ _ _ _ _ _ _ _ _ _ _ _)
   | (with_reducible exact ih5 _ _ _ _ _ _ _ _ _ _ _)
   | (with_reducible exact ih6 _ _ _ _ _ _ _ _ _ _ _ _ _)
   | (with_reducible exact ih7 _ _ _ _ _ _ _ _ _ _ _ _ _ _ _ _ _ _ _)
   | (with_reducible exact ih8 _ _ _ _ _ _ _ _ _ _ _ _ _ _ _ _ _ _)
   | (with_reducible exact ih9 _ _ _ _ _ _ _ _ _ _ _ _ _ _ _ _ _)
   | (with_reducible exact overlap_differ.mono _ _ _)
   | (with_reducible exact LeO.refl _)
   | (with_reducible exact LeO.none _)
   | (with_reducible refine LeO.ite ?_ ?_)
   | (with_reducible refine LeO.bind ?_ (fun _=>?_))
   | exact ih0 _ _ _ _ _ _ _ _ _ _
   | exact ih1 _ _ _ _ _ _ _ _ _
   | exact ih2 _ _ _ _ _ _ _ _ _
   | exact ih3 _ _
   | exact ih4 _ _ _ _ _ _ _ _ _ _ _ _ _
   | exact ih5 _ _ _ _ _ _ _ _ _ _ _
   | exact ih6 _ _ _ _ _ _ _ _ _ _ _ _ _
   | exact ih7 _ _ _ _ _ _ _ _ _ _ _ _ _ _ _ _ _ _ _
   | exact ih8 _ _ _ _ _ _ _ _ _ _ _ _ _ _ _ _ _ _
   | exact ih9 _ _ _ _ _ _ _ _ _ _ _ _ _ _ _ _ _
   | exact overlap_differ.mono _ _ _
   | exact LeO.none _
   | refine LeO.ite ?_ ?_
   | refine LeO.bind ?_ (fun _=>?_)
def overlap_Insert.T5 : Bool × List (List Nat × List Nat):=(true,[([],[]),([0],[0]),([],[]),([2],[2]),([0,1,2],[]),([4,1,3,0,1,2],[1,4]),([0,1,2,3,4,5],[]),([6,3,5,0,1,2,3,4,5],[3,6])])
def overlap_Insert.B5 : List Nat:=[0,1,0,4,7,31,63,127]
theorem overlap_Insert.tab5 : rtab .any (opsOf Try.f15 5) = overlap_Insert.T5:=by kernel_rfl
theorem overlap_Insert.bits5 : waitsOk overlap_Insert.T5.2 overlap_Insert.B5 = true:=by kernel_rfl
def overlap_Insert.T23 : Bool × List (List Nat × List Nat):=(true,[([],[]),([0],[0]),([],[]),([2],[2]),([1,3],[1,3]),([],[]),([5],[5]),([],[]),([7],[7]),([6,8],[6,8]),([4,6,0,1,2,3,4],[4]),([9,10,0,1,2,3,4,5,6,7,8,9,10],[9])])
def overlap_Insert.B23 : List Nat:=[0,1,0,4,15,0,32,0,128,480,127,2047]
theorem overlap_Insert.tab23 : rtab .any (opsOf Try.f15 23) = overlap_Insert.T23:=by kernel_rfl
theorem overlap_Insert.bits23 : waitsOk overlap_Insert.T23.2 overlap_Insert.B23 = true:=by kernel_rfl
def overlap_Insert.T28 : Bool × List (List Nat × List Nat):=(true,[([],[]),([],[]),([],[]),([0,1,2],[0,1,2]),([],[]),([],[]),([],[]),([4,5,6,3],[4,5,6]),([],[]),([],[]),([8,3,7,0,1,2,3,8,9],[3,8]),([9,7,10,0,1,2,3,4,5,6,7,8,9,10],[7,9])])
def overlap_Insert.B28 : List Nat:=[0,0,0,7,0,0,0,127,0,0,1023,2047]
theorem overlap_Insert.tab28 : rtab .any (opsOf Try.f15 28) = overlap_Insert.T28:=by kernel_rfl
theorem overlap_Insert.bits28 : waitsOk overlap_Insert.T28.2 overlap_Insert.B28 = true:=by kernel_rfl
def overlap_Insert.T35 : Bool × List (List Nat × List Nat):=(true,[([],[]),([],[]),([],[]),([],[]),([3],[3]),([1,2,4,4],[1,2,4]),([0,5,5],[0,5]),([6,6,0,1,2,3,4,5,6],[0,6])])
def overlap_Insert.B35 : List Nat:=[0,0,0,0,8,30,63,127]
theorem overlap_Insert.tab35 : rtab .any (opsOf Try.f15 35) = overlap_Insert.T35:=by kernel_rfl
theorem overlap_Insert.bits35 : waitsOk overlap_Insert.T35.2 overlap_Insert.B35 = true:=by kernel_rfl
set_option maxHeartbeats 8000000 in
set_option maxRecDepth 100000 in
noncomputable def overlap_Insert.callss : { P : Prop × Prop × Prop // P.1→P.2.1→P.2.2→∀ (k : Nat) (A0 : Option Addr) (c0 : Nat) (l0 : List (S23)) (a1_0 : Int) (a1_1 : ByteArray) (a1_2 : Int) (a1_3 : Int) (a2 : Int) (r1 : List (S23)) (r2 : Int) (r3 : Int) (w : World) (hr0 : Kd.C k23 w A0 l0.length l0) (hc0 : l0.length≤c0) (h : overlap_Insert.f k l0 a1_0 a1_1 a1_2 a1_3 a2 = some (r1,r2,r3)),Calls Try.prog 15 #[.slice A0 l0.length c0,.agg #[.int .i64 a1_0,.string a1_1,.int .i64 a1_2,.int .i64 a1_3],.int .i64 a2] w fun e w'=>∃ v0_ : Value,e = .returned (.tuple #[v0_,.int .i64 r2,.int .i64 r3])∧Kd.R k23 23 w' w.heap.size (fun _=>True) v0_ r1∧Below w.heap.size w w' }:=⟨(_,_,_),by
 intro Hrest0_ Hrest1_ Hrest2_ k A0 c0 l0 a1_0 a1_1 a1_2 a1_3 a2 r1 r2 r3 w hr0 hc0 h;have hu23:=Try.underlying23;have HR0:=Aside0.mk hr0;have HC0:=Aside0.mk hc0;clear hr0 hc0;have HB:=Aside0.mk (Below.refl w.heap.size w);have H : (if a1_1.toList = ([] : List UInt8) then ((api_Piece.f l0).bind fun t131=>(some (t131,0,0))) else (if a1_0 < 0 then (some (([] : List (S23)),0,4)) else (if a1_0 > 2147483648 then (some (([] : List (S23)),0,4)) else (if a2 < 1 then (some (([] : List (S23)),0,4)) else (if a2 > 5 then (some (([] : List (S23)),0,4)) else ((overlap_end.f a1_0 a1_1 a1_2 a1_3).bind fun t134=>(overlap_Insert.l0 k l0 a2 ([] : List (S23)) 0 0 a1_0 l0 (l0.length : Int) 0 a1_0 a1_1 a1_0 t134))))))) = some (r1,r2,r3):=h;clear h;by_cases c4 : a1_1.toList = ([] : List UInt8)
 ·
  rw [if_pos c4] at H;have c4b0 : (a1_1.toList == ([] : List UInt8)) = true:=beq_iff_eq.mpr c4;have c4b1 : (a1_1.toList != ([] : List UInt8)) = false:=bne_eq_false_iff_eq.mpr c4;clear c4;replace H:=Option.bind_eq_some_iff.mp H;obtain ⟨t131,A50,H⟩:=H;replace H : (some (t131,0,0)) = some (r1,r2,r3):=H;have A5:=Aside0.mk A50;clear A50;simp only [Option.some.injEq,Prod.mk.injEq] at H;obtain ⟨rfl,rfl,rfl⟩:=H;go_enter Try.func15,Try.ntmps15
  try go_wp2_with (first|((with_reducible refine gate_dst (N:=4) rfl ?_);refine box_event ?hg (N:=4) ?hd (cs:=#[.int .i64 a1_0,.string a1_1,.int .i64 a1_2,.int .i64 a1_3]) (t:=23) ?hr ?_;(case hd=>rfl);(case hg=>rfl);(case hr=>first|(go_simp;done)|(go_simp;rfl));intro gb130 hg w6 hbox hb;have n0_:=Aside0.mk (below_step (by repeat (first|(with_reducible first|exact HB.out|apply below_alloc|apply pw_below_drewN|apply below_drew1)|exact HB.out)) hb);have n1_:=Aside0.mk (hbox);have n2_:=Aside0.mk ((by rw [hg];exact (below_size (by repeat (first|(with_reducible first|exact HB.out|apply below_alloc|apply pw_below_drewN|apply below_drew1)|exact HB.out))) : w.heap.size≤gb130));have n3_:=Aside0.mk ((by rw [hg];exact (below_size (by repeat (first|(with_reducible first|exact HB.out|apply below_alloc|apply pw_below_drewN|apply below_drew1)|exact HB.out))) : w.heap.size≤gb130));clear HB;have HB:=n0_;have BK130:=n1_;have GW130:=n2_;have GE130:=n3_;clear n0_ n1_ n2_ n3_;clear hb hbox hg;have hcz7_0 : w6.cell? ⟨gb130,0,none⟩ = some (.int .i64 a1_0):=(blk_cell BK130.out 0).trans rfl;have hcz7_1 : w6.cell? ⟨gb130,1,none⟩ = some (.string a1_1):=(blk_cell BK130.out 1).trans rfl;have hcz7_2 : w6.cell? ⟨gb130,2,none⟩ = some (.int .i64 a1_2):=(blk_cell BK130.out 2).trans rfl;have hcz7_3 : w6.cell? ⟨gb130,3,none⟩ = some (.int .i64 a1_3):=(blk_cell BK130.out 3).trans rfl;have hfz7_0:=blk_frozen BK130.out 0;have hfz7_1:=blk_frozen BK130.out 1;have hfz7_2:=blk_frozen BK130.out 2;have hfz7_3:=blk_frozen BK130.out 3))
  go_step3
  go_wp2_with (first|((with_reducible refine gate_callee (f:=27) rfl ?_);refine goesL_ (some 26) rfl rfl Try.func27 (by kernel_rfl) rfl #[.slice A0 l0.length c0] rfl (by (try simp only [List.map_toArray,List.map_cons,List.map_nil]);first|done|rfl|(simp only [List.length_drop,List.length_take];rfl)) ?_;(with_reducible refine (api_Piece.calls _ _ l0 t131 _ ?side1 ?side2 A5.out).mono ?_);(case side1=>repeat (first|exact (Kd.C_below HR0.out HB.out)|(with_reducible refine Kd.C_alloc ?_ _)|(with_reducible refine Kd.C_drewN ?_ _)|(with_reducible refine Kd.C_drew ?_)));(case side2=>exact HC0.out);rintro e w8 ⟨v132,rfl,ho0,hb⟩;refine ⟨_,rfl,?_⟩;have n0_:=Aside0.mk (Kd.R_lower (Kd.R_newB ho0 (g:=gb130) (o:=.cells #[.int .i64 a1_0,.string a1_1,.int .i64 a1_2,.int .i64 a1_3] 23 (0,0)) (by (with_reducible repeat (first|refine blk_drewN ?_ _|refine blk_drew ?_|refine blk_alloc ?_ _));exact BK130.out)) (below_size (by repeat (first|(with_reducible first|exact HB.out|apply below_alloc|apply pw_below_drewN|apply below_drew1|refine below_set ?_ GE130.out)|exact HB.out))));have n1_:=Aside0.mk (blk_below (g:=gb130) (o:=.cells #[.int .i64 a1_0,.string a1_1,.int .i64 a1_2,.int .i64 a1_3] 23 (0,0)) (by (with_reducible repeat (first|refine blk_drewN ?_ _|refine blk_drew ?_|refine blk_alloc ?_ _));exact BK130.out) hb);have n2_:=Aside0.mk (below_step (by repeat (first|(with_reducible first|exact HB.out|apply below_alloc|apply pw_below_drewN|apply below_drew1|refine below_set ?_ GE130.out)|exact HB.out)) hb);clear BK130;clear HB;have HO133:=n0_;have BK130:=n1_;have HB:=n2_;clear n0_ n1_ n2_;(try clear hb);(try clear hb2);(try clear hk);(try clear hi);(try clear ho0)));(try rw [Exit.noGoto_ret]);go_ret3;exact ⟨_,by first|rfl|(simp [errW_none,errW_some] <;> rfl)|(simp [*,errW_none,errW_some] <;> rfl),by (with_reducible repeat (first|apply Kd.R_alloc|apply Kd.R_drewN|apply Kd.R_drew));exact Kd.R_mono HO133.out (fun _ hk=>trivial),by repeat (first|(with_reducible first|exact HB.out|apply below_alloc|apply pw_below_drewN|apply below_drew1|refine below_set ?_ GE130.out)|exact HB.out)⟩
 ·
  rw [if_neg c4] at H;have c4b0 : (a1_1.toList == ([] : List UInt8)) = false:=beq_eq_false_iff_ne.mpr c4;have c4b1 : (a1_1.toList != ([] : List UInt8)) = true:=bne_iff_ne.mpr c4;by_cases c9 : a1_0 < 0
  ·
   rw [if_pos c9] at H;have c9b0 : decide (a1_0 < 0) = true:=decide_eq_true c9;clear c9;simp only [Option.some.injEq,Prod.mk.injEq] at H;obtain ⟨rfl,rfl,rfl⟩:=H;go_enter Try.func15,Try.ntmps15
   try go_wp2_with (first|((with_reducible refine gate_dst (N:=4) rfl ?_);refine box_event ?hg (N:=4) ?hd (cs:=#[.int .i64 a1_0,.string a1_1,.int .i64 a1_2,.int .i64 a1_3]) (t:=23) ?hr ?_;(case hd=>rfl);(case hg=>rfl);(case hr=>first|(go_simp;done)|(go_simp;rfl));intro gb130 hg w10 hbox hb;have n0_:=Aside0.mk (below_step (by repeat (first|(with_reducible first|exact HB.out|apply below_alloc|apply pw_below_drewN|apply below_drew1)|exact HB.out)) hb);have n1_:=Aside0.mk (hbox);have n2_:=Aside0.mk ((by rw [hg];exact (below_size (by repeat (first|(with_reducible first|exact HB.out|apply below_alloc|apply pw_below_drewN|apply below_drew1)|exact HB.out))) : w.heap.size≤gb130));have n3_:=Aside0.mk ((by rw [hg];exact (below_size (by repeat (first|(with_reducible first|exact HB.out|apply below_alloc|apply pw_below_drewN|apply below_drew1)|exact HB.out))) : w.heap.size≤gb130));clear HB;have HB:=n0_;have BK130:=n1_;have GW130:=n2_;have GE130:=n3_;clear n0_ n1_ n2_ n3_;clear hb hbox hg;have hcz11_0 : w10.cell? ⟨gb130,0,none⟩ = some (.int .i64 a1_0):=(blk_cell BK130.out 0).trans rfl;have hcz11_1 : w10.cell? ⟨gb130,1,none⟩ = some (.string a1_1):=(blk_cell BK130.out 1).trans rfl;have hcz11_2 : w10.cell? ⟨gb130,2,none⟩ = some (.int .i64 a1_2):=(blk_cell BK130.out 2).trans rfl;have hcz11_3 : w10.cell? ⟨gb130,3,none⟩ = some (.int .i64 a1_3):=(blk_cell BK130.out 3).trans rfl;have hfz11_0:=blk_frozen BK130.out 0;have hfz11_1:=blk_frozen BK130.out 1;have hfz11_2:=blk_frozen BK130.out 2;have hfz11_3:=blk_frozen BK130.out 3))
   go_step3
   try go_wp2_with fail
   (try rw [Exit.noGoto_ret]);go_ret3;exact ⟨_,by first|rfl|(simp [errW_none,errW_some] <;> rfl)|(simp [*,errW_none,errW_some] <;> rfl),by first|exact Kd.R_nil _ _ _ _ _|exact Kd.N_nil _ _ _ _ _|exact Kd.V_nil _ _ _ _ _|exact Kd.Q_nil _ _ _ _ _|exact Kd.S_nil _ _ _ _ _,by repeat (first|(with_reducible first|exact HB.out|apply below_alloc|apply pw_below_drewN|apply below_drew1|refine below_set ?_ GE130.out)|exact HB.out)⟩
  ·
   rw [if_neg c9] at H;have c9b0 : decide (a1_0 < 0) = false:=decide_eq_false c9;clear c9;by_cases c12 : a1_0 > 2147483648
   ·
    rw [if_pos c12] at H;have c12b0 : decide (2147483648 < a1_0) = true:=decide_eq_true c12;clear c12;simp only [Option.some.injEq,Prod.mk.injEq] at H;obtain ⟨rfl,rfl,rfl⟩:=H;go_enter Try.func15,Try.ntmps15
    try go_wp2_with (first|((with_reducible refine gate_dst (N:=4) rfl ?_);refine box_event ?hg (N:=4) ?hd (cs:=#[.int .i64 a1_0,.string a1_1,.int .i64 a1_2,.int .i64 a1_3]) (t:=23) ?hr ?_;(case hd=>rfl);(case hg=>rfl);(case hr=>first|(go_simp;done)|(go_simp;rfl));intro gb130 hg w13 hbox hb;have n0_:=Aside0.mk (below_step (by repeat (first|(with_reducible first|exact HB.out|apply below_alloc|apply pw_below_drewN|apply below_drew1)|exact HB.out)) hb);have n1_:=Aside0.mk (hbox);have n2_:=Aside0.mk ((by rw [hg];exact (below_size (by repeat (first|(with_reducible first|exact HB.out|apply below_alloc|apply pw_below_drewN|apply below_drew1)|exact HB.out))) : w.heap.size≤gb130));have n3_:=Aside0.mk ((by rw [hg];exact (below_size (by repeat (first|(with_reducible first|exact HB.out|apply below_alloc|apply pw_below_drewN|apply below_drew1)|exact HB.out))) : w.heap.size≤gb130));clear HB;have HB:=n0_;have BK130:=n1_;have GW130:=n2_;have GE130:=n3_;clear n0_ n1_ n2_ n3_;clear hb hbox hg;have hcz14_0 : w13.cell? ⟨gb130,0,none⟩ = some (.int .i64 a1_0):=(blk_cell BK130.out 0).trans rfl;have hcz14_1 : w13.cell? ⟨gb130,1,none⟩ = some (.string a1_1):=(blk_cell BK130.out 1).trans rfl;have hcz14_2 : w13.cell? ⟨gb130,2,none⟩ = some (.int .i64 a1_2):=(blk_cell BK130.out 2).trans rfl;have hcz14_3 : w13.cell? ⟨gb130,3,none⟩ = some (.int .i64 a1_3):=(blk_cell BK130.out 3).trans rfl;have hfz14_0:=blk_frozen BK130.out 0;have hfz14_1:=blk_frozen BK130.out 1;have hfz14_2:=blk_frozen BK130.out 2;have hfz14_3:=blk_frozen BK130.out 3))
    go_step3
    try go_wp2_with fail
    (try rw [Exit.noGoto_ret]);go_ret3;exact ⟨_,by first|rfl|(simp [errW_none,errW_some] <;> rfl)|(simp [*,errW_none,errW_some] <;> rfl),by first|exact Kd.R_nil _ _ _ _ _|exact Kd.N_nil _ _ _ _ _|exact Kd.V_nil _ _ _ _ _|exact Kd.Q_nil _ _ _ _ _|exact Kd.S_nil _ _ _ _ _,by repeat (first|(with_reducible first|exact HB.out|apply below_alloc|apply pw_below_drewN|apply below_drew1|refine below_set ?_ GE130.out)|exact HB.out)⟩
   ·
    rw [if_neg c12] at H;have c12b0 : decide (2147483648 < a1_0) = false:=decide_eq_false c12;clear c12;by_cases c15 : a2 < 1
    ·
     rw [if_pos c15] at H;have c15b0 : decide (a2 < 1) = true:=decide_eq_true c15;clear c15;simp only [Option.some.injEq,Prod.mk.injEq] at H;obtain ⟨rfl,rfl,rfl⟩:=H;go_enter Try.func15,Try.ntmps15
     try go_wp2_with (first|((with_reducible refine gate_dst (N:=4) rfl ?_);refine box_event ?hg (N:=4) ?hd (cs:=#[.int .i64 a1_0,.string a1_1,.int .i64 a1_2,.int .i64 a1_3]) (t:=23) ?hr ?_;(case hd=>rfl);(case hg=>rfl);(case hr=>first|(go_simp;done)|(go_simp;rfl));intro gb130 hg w16 hbox hb;have n0_:=Aside0.mk (below_step (by repeat (first|(with_reducible first|exact HB.out|apply below_alloc|apply pw_below_drewN|apply below_drew1)|exact HB.out)) hb);have n1_:=Aside0.mk (hbox);have n2_:=Aside0.mk ((by rw [hg];exact (below_size (by repeat (first|(with_reducible first|exact HB.out|apply below_alloc|apply pw_below_drewN|apply below_drew1)|exact HB.out))) : w.heap.size≤gb130));have n3_:=Aside0.mk ((by rw [hg];exact (below_size (by repeat (first|(with_reducible first|exact HB.out|apply below_alloc|apply pw_below_drewN|apply below_drew1)|exact HB.out))) : w.heap.size≤gb130));clear HB;have HB:=n0_;have BK130:=n1_;have GW130:=n2_;have GE130:=n3_;clear n0_ n1_ n2_ n3_;clear hb hbox hg;have hcz17_0 : w16.cell? ⟨gb130,0,none⟩ = some (.int .i64 a1_0):=(blk_cell BK130.out 0).trans rfl;have hcz17_1 : w16.cell? ⟨gb130,1,none⟩ = some (.string a1_1):=(blk_cell BK130.out 1).trans rfl;have hcz17_2 : w16.cell? ⟨gb130,2,none⟩ = some (.int .i64 a1_2):=(blk_cell BK130.out 2).trans rfl;have hcz17_3 : w16.cell? ⟨gb130,3,none⟩ = some (.int .i64 a1_3):=(blk_cell BK130.out 3).trans rfl;have hfz17_0:=blk_frozen BK130.out 0;have hfz17_1:=blk_frozen BK130.out 1;have hfz17_2:=blk_frozen BK130.out 2;have hfz17_3:=blk_frozen BK130.out 3))
     go_step3
     try go_wp2_with fail
     (try rw [Exit.noGoto_ret]);go_ret3;exact ⟨_,by first|rfl|(simp [errW_none,errW_some] <;> rfl)|(simp [*,errW_none,errW_some] <;> rfl),by first|exact Kd.R_nil _ _ _ _ _|exact Kd.N_nil _ _ _ _ _|exact Kd.V_nil _ _ _ _ _|exact Kd.Q_nil _ _ _ _ _|exact Kd.S_nil _ _ _ _ _,by repeat (first|(with_reducible first|exact HB.out|apply below_alloc|apply pw_below_drewN|apply below_drew1|refine below_set ?_ GE130.out)|exact HB.out)⟩
    ·
     rw [if_neg c15] at H;have c15b0 : decide (a2 < 1) = false:=decide_eq_false c15;clear c15;by_cases c18 : a2 > 5
     ·
      rw [if_pos c18] at H;have c18b0 : decide (5 < a2) = true:=decide_eq_true c18;clear c18;simp only [Option.some.injEq,Prod.mk.injEq] at H;obtain ⟨rfl,rfl,rfl⟩:=H;go_enter Try.func15,Try.ntmps15
      try go_wp2_with (first|((with_reducible refine gate_dst (N:=4) rfl ?_);refine box_event ?hg (N:=4) ?hd (cs:=#[.int .i64 a1_0,.string a1_1,.int .i64 a1_2,.int .i64 a1_3]) (t:=23) ?hr ?_;(case hd=>rfl);(case hg=>rfl);(case hr=>first|(go_simp;done)|(go_simp;rfl));intro gb130 hg w19 hbox hb;have n0_:=Aside0.mk (below_step (by repeat (first|(with_reducible first|exact HB.out|apply below_alloc|apply pw_below_drewN|apply below_drew1)|exact HB.out)) hb);have n1_:=Aside0.mk (hbox);have n2_:=Aside0.mk ((by rw [hg];exact (below_size (by repeat (first|(with_reducible first|exact HB.out|apply below_alloc|apply pw_below_drewN|apply below_drew1)|exact HB.out))) : w.heap.size≤gb130));have n3_:=Aside0.mk ((by rw [hg];exact (below_size (by repeat (first|(with_reducible first|exact HB.out|apply below_alloc|apply pw_below_drewN|apply below_drew1)|exact HB.out))) : w.heap.size≤gb130));clear HB;have HB:=n0_;have BK130:=n1_;have GW130:=n2_;have GE130:=n3_;clear n0_ n1_ n2_ n3_;clear hb hbox hg;have hcz20_0 : w19.cell? ⟨gb130,0,none⟩ = some (.int .i64 a1_0):=(blk_cell BK130.out 0).trans rfl;have hcz20_1 : w19.cell? ⟨gb130,1,none⟩ = some (.string a1_1):=(blk_cell BK130.out 1).trans rfl;have hcz20_2 : w19.cell? ⟨gb130,2,none⟩ = some (.int .i64 a1_2):=(blk_cell BK130.out 2).trans rfl;have hcz20_3 : w19.cell? ⟨gb130,3,none⟩ = some (.int .i64 a1_3):=(blk_cell BK130.out 3).trans rfl;have hfz20_0:=blk_frozen BK130.out 0;have hfz20_1:=blk_frozen BK130.out 1;have hfz20_2:=blk_frozen BK130.out 2;have hfz20_3:=blk_frozen BK130.out 3))
      go_step3
      try go_wp2_with fail
      (try rw [Exit.noGoto_ret]);go_ret3;exact ⟨_,by first|rfl|(simp [errW_none,errW_some] <;> rfl)|(simp [*,errW_none,errW_some] <;> rfl),by first|exact Kd.R_nil _ _ _ _ _|exact Kd.N_nil _ _ _ _ _|exact Kd.V_nil _ _ _ _ _|exact Kd.Q_nil _ _ _ _ _|exact Kd.S_nil _ _ _ _ _,by repeat (first|(with_reducible first|exact HB.out|apply below_alloc|apply pw_below_drewN|apply below_drew1|refine below_set ?_ GE130.out)|exact HB.out)⟩
     ·
      rw [if_neg c18] at H;have c18b0 : decide (5 < a2) = false:=decide_eq_false c18;clear c18;replace H:=Option.bind_eq_some_iff.mp H;obtain ⟨t134,A210,H⟩:=H;replace H : (overlap_Insert.l0 k l0 a2 ([] : List (S23)) 0 0 a1_0 l0 (l0.length : Int) 0 a1_0 a1_1 a1_0 t134) = some (r1,r2,r3):=H;have A21:=Aside0.mk A210;clear A210;have HC22:=Aside0.mk H;clear H;go_enter Try.func15,Try.ntmps15
      try go_wp2_with (first|((with_reducible refine gate_dst (N:=4) rfl ?_);refine box_event ?hg (N:=4) ?hd (cs:=#[.int .i64 a1_0,.string a1_1,.int .i64 a1_2,.int .i64 a1_3]) (t:=23) ?hr ?_;(case hd=>rfl);(case hg=>rfl);(case hr=>first|(go_simp;done)|(go_simp;rfl));intro gb130 hg w23 hbox hb;have n0_:=Aside0.mk (below_step (by repeat (first|(with_reducible first|exact HB.out|apply below_alloc|apply pw_below_drewN|apply below_drew1)|exact HB.out)) hb);have n1_:=Aside0.mk (hbox);have n2_:=Aside0.mk ((by rw [hg];exact (below_size (by repeat (first|(with_reducible first|exact HB.out|apply below_alloc|apply pw_below_drewN|apply below_drew1)|exact HB.out))) : w.heap.size≤gb130));have n3_:=Aside0.mk ((by rw [hg];exact (below_size (by repeat (first|(with_reducible first|exact HB.out|apply below_alloc|apply pw_below_drewN|apply below_drew1)|exact HB.out))) : w.heap.size≤gb130));clear HB;have HB:=n0_;have BK130:=n1_;have GW130:=n2_;have GE130:=n3_;clear n0_ n1_ n2_ n3_;clear hb hbox hg;have hcz24_0 : w23.cell? ⟨gb130,0,none⟩ = some (.int .i64 a1_0):=(blk_cell BK130.out 0).trans rfl;have hcz24_1 : w23.cell? ⟨gb130,1,none⟩ = some (.string a1_1):=(blk_cell BK130.out 1).trans rfl;have hcz24_2 : w23.cell? ⟨gb130,2,none⟩ = some (.int .i64 a1_2):=(blk_cell BK130.out 2).trans rfl;have hcz24_3 : w23.cell? ⟨gb130,3,none⟩ = some (.int .i64 a1_3):=(blk_cell BK130.out 3).trans rfl;have hfz24_0:=blk_frozen BK130.out 0;have hfz24_1:=blk_frozen BK130.out 1;have hfz24_2:=blk_frozen BK130.out 2;have hfz24_3:=blk_frozen BK130.out 3))
      go_step3
      try go_wp2_with fail
      have n0_:=Aside0.mk (blk_drew BK130.out);have n1_:=Aside0.mk (below_drew1 HB.out);clear BK130;clear HB;have BK130:=n0_;have HB:=n1_;clear n0_ n1_;refine start_ (n:=8) (S:=fun w'=>w'.cell? ⟨gb130,0,none⟩ = some (.int .i64 a1_0)∧w'.cell? ⟨gb130,1,none⟩ = some (.string a1_1)∧w'.cell? ⟨gb130,2,none⟩ = some (.int .i64 a1_2)∧w'.cell? ⟨gb130,3,none⟩ = some (.int .i64 a1_3)) (ds:=[5,7]) (lb 8 0) (by kernel_rfl) rfl (by kernel_rfl) ⟨(blk_cell BK130.out 0).trans rfl,(blk_cell BK130.out 1).trans rfl,(blk_cell BK130.out 2).trans rfl,(blk_cell BK130.out 3).trans rfl⟩ (fun hHeld=>?_);refine with_tabW overlap_Insert.tab5 overlap_Insert.bits5 (fun HT_ HW_=>?_)
      generalize w23.drew = w25 at BK130 HB hHeld ⊢;refine pure_ (i:=0) (N:=some 44) (v:=?_) (a':=?_) (lb 8 1) rfl rfl (any_of HT_.out (by kernel_rfl)) (fun _ _ _ h=>h) (Or.inl ⟨by rfl,?_⟩) ?_ ?_;rotate_left
      ·
       intro w';go_simp;with_reducible rfl
      rotate_left
      ·
       simp only [Act.put,sqa,sqb,sqc,i64_w,i32_w];rfl
      refine take_ (i:=1) (N:=some 45) (v:=?_) (a':=?_) (lb 8 3) rfl rfl (take_ofW HT_.out HW_.out (by kernel_rfl)) (fun _ _ _ h=>h) (Or.inl ⟨by rfl,?_⟩) hHeld ?_ ?_;rotate_left
      ·
       rintro w' ⟨s0,s1,s2,s3⟩;go_simp;with_reducible rfl
      rotate_left
      ·
       simp only [Act.put,sqa,sqb,sqc,i64_w,i32_w];rfl
      refine take_ (i:=2) (N:=some 46) (v:=?_) (a':=?_) (lb 8 7) rfl rfl (take_ofW HT_.out HW_.out (by kernel_rfl)) (fun _ _ _ h=>h) (Or.inl ⟨by rfl,?_⟩) hHeld ?_ ?_;rotate_left
      ·
       rintro w' ⟨s0,s1,s2,s3⟩;go_simp;with_reducible rfl
      rotate_left
      ·
       simp only [Act.put,sqa,sqb,sqc,i64_w,i32_w];rfl
      refine pure_ (i:=4) (N:=some 48) (v:=?_) (a':=?_) (lb 8 23) rfl rfl (any_of HT_.out (by kernel_rfl)) (fun _ _ _ h=>h) (Or.inl ⟨by rfl,?_⟩) ?_ ?_;rotate_left
      ·
       intro w';go_simp;with_reducible rfl
      rotate_left
      ·
       simp only [Act.put,sqa,sqb,sqc,i64_w,i32_w];rfl
      refine one_ (i:=3) (N:=some 47) (lb 8 31) rfl rfl (one_of HT_.out (by kernel_rfl)) (by decide) (fun K hK=>?_);refine goes_ Try.func28 (by kernel_rfl) rfl #[.agg #[.int .i64 a1_0,.string a1_1,.int .i64 a1_2,.int .i64 a1_3]] (by rfl) rfl rfl (by (try simp only [List.map_toArray,List.map_cons,List.map_nil]);first|done|rfl|(simp only [List.length_drop,List.length_take];rfl)) ?_;with_reducible refine (overlap_end.calls a1_0 a1_1 a1_2 a1_3 t134 _ A21.out).mono ?_
      rintro e w26 ⟨rfl,hb⟩;refine ⟨_,rfl,?_⟩;have n0_:=Aside0.mk (blk_below (g:=gb130) (o:=.cells #[.int .i64 a1_0,.string a1_1,.int .i64 a1_2,.int .i64 a1_3] 23 (0,0)) (by (with_reducible repeat (first|refine blk_drewN ?_ _|refine blk_drew ?_|refine blk_alloc ?_ _));exact BK130.out) hb);have n1_:=Aside0.mk (below_step (by repeat (first|(with_reducible first|exact HB.out|apply below_alloc|apply pw_below_drewN|apply below_drew1|refine below_set ?_ GE130.out)|exact HB.out)) hb);clear BK130;clear HB;have BK130:=n0_;have HB:=n1_;clear n0_ n1_;(try clear hb);(try clear hb2);(try clear hk);(try clear hi);refine hK.out _ _ ⟨(blk_cell BK130.out 0).trans rfl,(blk_cell BK130.out 1).trans rfl,(blk_cell BK130.out 2).trans rfl,(blk_cell BK130.out 3).trans rfl⟩ (fun hHeld=>?_);clear hK K;refine norm_ (a':=?_) ?_ ?_;rotate_left
      ·
       show Act.put _ (some 47) _ = _
       simp only [Act.put,sqa,sqb,sqc,i64_w,i32_w];rfl
      refine last_ (i:=5) (N:=none) (lb 8 63) rfl rfl (one_of HT_.out (by kernel_rfl)) (by decide) (fun K hK=>?_);have hs27 : w26.cell? ⟨gb130,2,none⟩ = some (.int .i64 a1_2):=(blk_cell BK130.out 2).trans rfl;have hfs27:=blk_frozen BK130.out 2;refine skip_ (w1:=?_) (by rfl) rfl ?_ ?_;rotate_left
      ·
       go_simp;rfl
      refine hK.out _ _ ?_;clear hK K;refine pure_ (i:=6) (N:=some 49) (v:=?_) (a':=?_) (lb 8 127) rfl rfl (any_of HT_.out (by kernel_rfl)) (fun _ _ _ h=>h) (Or.inl ⟨by rfl,?_⟩) ?_ ?_;rotate_left
      ·
       intro w';go_simp;with_reducible rfl
      rotate_left
      ·
       simp only [Act.put,sqa,sqb,sqc,i64_w,i32_w];rfl
      refine last_ (i:=7) (N:=none) (lb 8 255) rfl rfl (one_of HT_.out (by kernel_rfl)) (by decide) (fun K hK=>?_);have hs28 : w26.cell? ⟨gb130,3,none⟩ = some (.int .i64 a1_3):=(blk_cell BK130.out 3).trans rfl;have hfs28:=blk_frozen BK130.out 3;refine skip_ (w1:=?_) (by rfl) rfl ?_ ?_;rotate_left
      ·
       go_simp;rfl
      refine hK.out _ _ ?_;clear hK K;refine done_ (done_of HT_.out (by kernel_rfl)) ?_;have hcz29_0 : w26.cell? ⟨gb130,0,none⟩ = some (.int .i64 a1_0):=(blk_cell BK130.out 0).trans rfl;have hcz29_1 : w26.cell? ⟨gb130,1,none⟩ = some (.string a1_1):=(blk_cell BK130.out 1).trans rfl;have hcz29_2 : w26.cell? ⟨gb130,2,none⟩ = some (.int .i64 a1_2):=(blk_cell BK130.out 2).trans rfl;have hcz29_3 : w26.cell? ⟨gb130,3,none⟩ = some (.int .i64 a1_3):=(blk_cell BK130.out 3).trans rfl;have hfz29_0:=blk_frozen BK130.out 0;have hfz29_1:=blk_frozen BK130.out 1;have hfz29_2:=blk_frozen BK130.out 2;have hfz29_3:=blk_frozen BK130.out 3;go_upto_block 1 with (fail)
      (try (go_step3;go_upto_block 1 with (fail)));go_cut [9,10,11,12] (fun v9 v10 v11 v12 wc=>∃ (kq : Nat) (x9_21 : List (S23)) (x10_21 : Int) (x11_21 : Int) (x12_21 : Int),v10 = .int .i64 x10_21∧v11 = .int .i64 x11_21∧v12 = .int .i64 x12_21∧Aside0 (overlap_Insert.j6 kq l0 a2 x9_21 x10_21 x11_21 x12_21 a1_0 a1_1 a1_0 t134 = some (r1,r2,r3))∧Aside0 (kq≤k)∧Aside0 (Kd.R k23 23 wc w.heap.size (fun k_=>k_≠gb130) v9 x9_21)∧Aside0 (wc.heap[gb130]? = some (.cells #[.int .i64 a1_0,.string a1_1,.int .i64 a1_0,.int .i64 t134] 23 (0,0)))∧Aside0 (Below w.heap.size w wc))
      case first=>
       have H:=HC22.out;clear HC22;have H':=Aside0.mk H;clear H;go_wp2;(try (go_step3;(try go_wp2_with fail)));go_loopg [9,10,11,12,54] k (fun kq v9 v10 v11 v12 v54 w'=>∃ (x9_1 : List (S23)) (x10_1 : Int) (x11_1 : Int) (x12_1 : Int) (x54_1 : Int),v10 = .int .i64 x10_1∧v11 = .int .i64 x11_1∧v12 = .int .i64 x12_1∧v54 = .int .i64 x54_1∧Aside0 (overlap_Insert.l0 kq l0 a2 x9_1 x10_1 x11_1 x12_1 l0 (l0.length : Int) x54_1 a1_0 a1_1 a1_0 t134 = some (r1,r2,r3))∧Aside0 (kq≤k)∧Aside0 (Kd.R k23 23 w' w.heap.size (fun k_=>k_≠gb130) v9 x9_1)∧Aside0 (w'.heap[gb130]? = some (.cells #[.int .i64 a1_0,.string a1_1,.int .i64 a1_0,.int .i64 t134] 23 (0,0)))∧Aside0 (Below w.heap.size w w'))
       case atStart=>exact ⟨(([] : List (S23))),(0),(0),(a1_0),(0),(by first|rfl|(simp;done)|(simp [*];done)),(by first|rfl|(simp;done)|(simp [*];done)),(by first|rfl|(simp;done)|(simp [*];done)),(by first|rfl|(simp;done)|(simp [*];done)),H',⟨Nat.le_refl _⟩,⟨by first|exact Kd.R_nil _ _ _ _ _|exact Kd.N_nil _ _ _ _ _|exact Kd.V_nil _ _ _ _ _|exact Kd.Q_nil _ _ _ _ _|exact Kd.S_nil _ _ _ _ _⟩,⟨by (with_reducible repeat (first|refine blk_drewN ?_ _|refine blk_drew ?_|refine blk_alloc ?_ _));refine blk_put (cs:=#[.int .i64 a1_0,.string a1_1,.int .i64 a1_0,.int .i64 a1_3]) ?_ 3 _ rfl;(with_reducible repeat (first|refine blk_drewN ?_ _|refine blk_drew ?_|refine blk_alloc ?_ _));refine blk_put (cs:=#[.int .i64 a1_0,.string a1_1,.int .i64 a1_2,.int .i64 a1_3]) ?_ 2 _ rfl;(with_reducible repeat (first|refine blk_drewN ?_ _|refine blk_drew ?_|refine blk_alloc ?_ _));exact BK130.out⟩,⟨by repeat (first|(with_reducible first|exact HB.out|apply below_alloc|apply pw_below_drewN|apply below_drew1|refine below_set ?_ GE130.out)|exact HB.out)⟩⟩
       case round=>
        clear H';(try clear c1);(try clear c2);(try clear p2);(try clear c4);(try clear c4b0);(try clear c4b1);(try clear c9);(try clear c9b0);(try clear c12);(try clear c12b0);(try clear c15);(try clear c15b0);(try clear c18);(try clear c18b0);(try clear c27);(try clear c28);(try clear hcz11_0);(try clear hcz11_1);(try clear hcz11_2);(try clear hcz11_3);(try clear hcz14_0);(try clear hcz14_1);(try clear hcz14_2);(try clear hcz14_3);(try clear hcz17_0);(try clear hcz17_1);(try clear hcz17_2);(try clear hcz17_3);(try clear hcz20_0);(try clear hcz20_1);(try clear hcz20_2);(try clear hcz20_3);(try clear hcz24_0);(try clear hcz24_1);(try clear hcz24_2);(try clear hcz24_3);(try clear hcz29_0);(try clear hcz29_1);(try clear hcz29_2);(try clear hcz29_3);(try clear hcz7_0);(try clear hcz7_1);(try clear hcz7_2);(try clear hcz7_3);(try clear hfz11_0);(try clear hfz11_1);(try clear hfz11_2);(try clear hfz11_3);(try clear hfz14_0);(try clear hfz14_1);(try clear hfz14_2);(try clear hfz14_3);(try clear hfz17_0);(try clear hfz17_1);(try clear hfz17_2);(try clear hfz17_3);(try clear hfz20_0);(try clear hfz20_1);(try clear hfz20_2);(try clear hfz20_3);(try clear hfz24_0);(try clear hfz24_1);(try clear hfz24_2);(try clear hfz24_3);(try clear hfz29_0);(try clear hfz29_1);(try clear hfz29_2);(try clear hfz29_3);(try clear hfz7_0);(try clear hfz7_1);(try clear hfz7_2);(try clear hfz7_3);obtain ⟨x9_1,x10_1,x11_1,x12_1,x54_1,rfl,rfl,rfl,rfl,HA,HK1,HO_9,BK130,HB⟩:=hrel;cases gk with
        | zero=>exact absurd HA.out (by simp [overlap_Insert.l0])
        | succ k1=>
         have H:=HA.out;clear HA;simp only [overlap_Insert.l0] at H;by_cases c30 : x54_1 < (l0.length : Int)
         ·
          rw [if_pos c30] at H;have c30b0 : decide (x54_1 < (l0.length : Int)) = true:=decide_eq_true c30;clear c30;(first|rw [c30b0]|(simp only [i64_w,i32_w];rw [c30b0])|skip)
          by_cases c31 : 0≤x54_1
          ·
           rw [if_pos c31] at H;have c31b0 : decide (0≤x54_1) = true:=decide_eq_true c31;clear c31;by_cases c32 : x54_1 < (l0.length : Int)
           ·
            rw [if_pos c32] at H;have c32b0 : decide (x54_1 < (l0.length : Int)) = true:=decide_eq_true c32;clear c32;replace H:=Option.bind_eq_some_iff.mp H;obtain ⟨t137,A330,H⟩:=H;replace H : (if t137≤a1_0 then ((overlap_join.f x9_1 ((rd_T23 l0 x54_1).f0) ((rd_T23 l0 x54_1).f1) ((rd_T23 l0 x54_1).f2) ((rd_T23 l0 x54_1).f3)).bind fun t138=>(overlap_Insert.l0 k1 l0 a2 t138 x10_1 x11_1 x12_1 l0 (l0.length : Int) (wrap64 (x54_1 + 1)) a1_0 a1_1 a1_0 t134)) else (if ((rd_T23 l0 x54_1).f0)≥t134 then (if x12_1 < t134 then ((overlap_part.f a1_0 a1_1 a1_0 t134 x12_1 t134).bind fun bt141=>((overlap_join.f x9_1 bt141.1 bt141.2.1 bt141.2.2.1 bt141.2.2.2).bind fun t145=>(overlap_Insert.j1 k1 l0 a2 t145 x10_1 x11_1 t134 x54_1 a1_0 a1_1 a1_0 t134))) else (overlap_Insert.j1 k1 l0 a2 x9_1 x10_1 x11_1 x12_1 x54_1 a1_0 a1_1 a1_0 t134)) else ((overlap_end.f ((rd_T23 l0 x54_1).f0) ((rd_T23 l0 x54_1).f1) ((rd_T23 l0 x54_1).f2) ((rd_T23 l0 x54_1).f3)).bind fun t157=>(if ((rd_T23 l0 x54_1).f0) < (mx ((rd_T23 l0 x54_1).f0) a1_0) then ((overlap_part.f ((rd_T23 l0 x54_1).f0) ((rd_T23 l0 x54_1).f1) ((rd_T23 l0 x54_1).f2) ((rd_T23 l0 x54_1).f3) ((rd_T23 l0 x54_1).f0) (mx ((rd_T23 l0 x54_1).f0) a1_0)).bind fun bt158=>((overlap_join.f x9_1 bt158.1 bt158.2.1 bt158.2.2.1 bt158.2.2.2).bind fun t162=>(overlap_Insert.j3 k1 l0 a2 t162 x10_1 x11_1 x12_1 (mx ((rd_T23 l0 x54_1).f0) a1_0) (mn t157 t134) l0 (l0.length : Int) x54_1 a1_0 a1_1 a1_0 t134 ((rd_T23 l0 x54_1).f0) ((rd_T23 l0 x54_1).f1) ((rd_T23 l0 x54_1).f2) ((rd_T23 l0 x54_1).f3)))) else (overlap_Insert.j3 k1 l0 a2 x9_1 x10_1 x11_1 x12_1 (mx ((rd_T23 l0 x54_1).f0) a1_0) (mn t157 t134) l0 (l0.length : Int) x54_1 a1_0 a1_1 a1_0 t134 ((rd_T23 l0 x54_1).f0) ((rd_T23 l0 x54_1).f1) ((rd_T23 l0 x54_1).f2) ((rd_T23 l0 x54_1).f3)))))) = some (r1,r2,r3):=H;have A33:=Aside0.mk A330;clear A330;by_cases c34 : t137≤a1_0
            ·
             rw [if_pos c34] at H;have c34b0 : decide (t137≤a1_0) = true:=decide_eq_true c34;clear c34;replace H:=Option.bind_eq_some_iff.mp H;obtain ⟨t138,A350,H⟩:=H;replace H : (overlap_Insert.l0 k1 l0 a2 t138 x10_1 x11_1 x12_1 l0 (l0.length : Int) (wrap64 (x54_1 + 1)) a1_0 a1_1 a1_0 t134) = some (r1,r2,r3):=H;have A35:=Aside0.mk A350;clear A350;have H':=Aside0.mk H;clear H;have p135 : 0≤(x54_1 : Int):=of_decide_eq_true (by first|(with_reducible assumption)|assumption);have q135 : x54_1 < (l0.length : Int):=of_decide_eq_true (by first|(with_reducible assumption)|assumption);obtain ⟨ad135,e135,hx135_0,hx135_1,hx135_2,hx135_3⟩:=at_T23 HR0.out x54_1 p135 q135;cases e135;replace hx135_0:=(HB.out.cell (World.block_lt_of_cell? w _ hx135_0)).trans hx135_0;replace hx135_1:=(HB.out.cell (World.block_lt_of_cell? w _ hx135_1)).trans hx135_1;replace hx135_2:=(HB.out.cell (World.block_lt_of_cell? w _ hx135_2)).trans hx135_2;replace hx135_3:=(HB.out.cell (World.block_lt_of_cell? w _ hx135_3)).trans hx135_3;replace p135:=eq_true p135;replace q135:=eq_true q135;try go_wp2_with (first|((with_reducible refine gate_dst (N:=14) rfl ?_);refine box_event ?hg (N:=14) ?hd (cs:=#[.int .i64 0,.string (⟨#[]⟩ : ByteArray),.int .i64 0,.int .i64 0]) (t:=23) ?hr ?_;(case hd=>rfl);(case hg=>rfl);(case hr=>first|(go_simp;done)|(go_simp;rfl));intro gb136 hg w36 hbox hb;have n0_:=Aside0.mk (Kd.R_below (Kd.R_elderB (by (with_reducible repeat (first|apply Kd.R_alloc|apply Kd.R_drewN|apply Kd.R_drew));exact HO_9.out) gb136 (Nat.le_of_eq hg.symm)) hb);have n1_:=Aside0.mk (blk_below (g:=gb130) (o:=.cells #[.int .i64 a1_0,.string a1_1,.int .i64 a1_0,.int .i64 t134] 23 (0,0)) (by (with_reducible repeat (first|refine blk_drewN ?_ _|refine blk_drew ?_|refine blk_alloc ?_ _));exact BK130.out) hb);have n2_:=Aside0.mk (below_step (by repeat (first|(with_reducible first|exact HB.out|apply below_alloc|apply pw_below_drewN|apply below_drew1|refine below_set ?_ GE130.out)|exact HB.out)) hb);have n3_:=Aside0.mk (hbox);have n4_:=Aside0.mk ((by rw [hg];exact (below_size (by repeat (first|(with_reducible first|exact HB.out|apply below_alloc|apply pw_below_drewN|apply below_drew1|refine below_set ?_ GE130.out)|exact HB.out))) : w.heap.size≤gb136));have n5_:=Aside0.mk ((by rw [hg];exact (below_size (by repeat (first|(with_reducible first|exact HB.out|apply below_alloc|apply pw_below_drewN|apply below_drew1|refine below_set ?_ GE130.out)|exact HB.out))) : w.heap.size≤gb136));have n6_:=Aside0.mk ((by rw [hg];exact Nat.ne_of_lt (blk_lt (g:=gb130) (o:=.cells #[.int .i64 a1_0,.string a1_1,.int .i64 a1_0,.int .i64 t134] 23 (0,0)) (by (with_reducible repeat (first|refine blk_drewN ?_ _|refine blk_drew ?_|refine blk_alloc ?_ _));exact BK130.out)) : gb130≠gb136));have n7_:=Aside0.mk ((by rw [hg];exact Nat.ne_of_gt (blk_lt (g:=gb130) (o:=.cells #[.int .i64 a1_0,.string a1_1,.int .i64 a1_0,.int .i64 t134] 23 (0,0)) (by (with_reducible repeat (first|refine blk_drewN ?_ _|refine blk_drew ?_|refine blk_alloc ?_ _));exact BK130.out)) : gb136≠gb130));clear HO_9;clear BK130;clear HB;have HO_9:=n0_;have BK130:=n1_;have HB:=n2_;have BK136:=n3_;have GW136:=n4_;have GE136:=n5_;have NB130_136:=n6_;have NB136_130:=n7_;clear n0_ n1_ n2_ n3_ n4_ n5_ n6_ n7_;clear hb hbox hg;have hnb37:=NB136_130.out;have hnc37:=NB130_136.out;have hcz38_0 : w36.cell? ⟨gb136,0,none⟩ = some (.int .i64 0):=(blk_cell BK136.out 0).trans rfl;have hcz38_1 : w36.cell? ⟨gb136,1,none⟩ = some (.string (⟨#[]⟩ : ByteArray)):=(blk_cell BK136.out 1).trans rfl;have hcz38_2 : w36.cell? ⟨gb136,2,none⟩ = some (.int .i64 0):=(blk_cell BK136.out 2).trans rfl;have hcz38_3 : w36.cell? ⟨gb136,3,none⟩ = some (.int .i64 0):=(blk_cell BK136.out 3).trans rfl;have hfz38_0:=blk_frozen BK136.out 0;have hfz38_1:=blk_frozen BK136.out 1;have hfz38_2:=blk_frozen BK136.out 2;have hfz38_3:=blk_frozen BK136.out 3))
             have n0_ : Aside0 (Kd.R k23 23 ((((w36.setCell ⟨gb136,0,none⟩ (.int .i64 ((rd_T23 l0 x54_1).f0))).setCell ⟨gb136,1,none⟩ (.string ((rd_T23 l0 x54_1).f1))).setCell ⟨gb136,2,none⟩ (.int .i64 ((rd_T23 l0 x54_1).f2))).setCell ⟨gb136,3,none⟩ (.int .i64 ((rd_T23 l0 x54_1).f3))) w.heap.size (fun k_=>k_≠gb130∧k_≠gb136) u9 x9_1):=⟨by (with_reducible repeat (first|apply Kd.R_alloc|apply Kd.R_drewN|apply Kd.R_drew));exact Kd.R_mono (Kd.R_far (p:=⟨gb136,3,none⟩) (Kd.R_far (p:=⟨gb136,2,none⟩) (Kd.R_far (p:=⟨gb136,1,none⟩) (Kd.R_far (p:=⟨gb136,0,none⟩) (Kd.R_mono HO_9.out (fun k_ hk=>(⟨hk,hk.2⟩ : _∧k_≠gb136))) (fun _ hk=>hk.2) (.int .i64 ((rd_T23 l0 x54_1).f0))) (fun _ hk=>hk.2) (.string ((rd_T23 l0 x54_1).f1))) (fun _ hk=>hk.2) (.int .i64 ((rd_T23 l0 x54_1).f2))) (fun _ hk=>hk.2) (.int .i64 ((rd_T23 l0 x54_1).f3))) (fun _ hk=>⟨hk.1.1,hk.1.2⟩)⟩;have n1_ : Aside0 (((((w36.setCell ⟨gb136,0,none⟩ (.int .i64 ((rd_T23 l0 x54_1).f0))).setCell ⟨gb136,1,none⟩ (.string ((rd_T23 l0 x54_1).f1))).setCell ⟨gb136,2,none⟩ (.int .i64 ((rd_T23 l0 x54_1).f2))).setCell ⟨gb136,3,none⟩ (.int .i64 ((rd_T23 l0 x54_1).f3))).heap[gb130]? = some (.cells #[.int .i64 a1_0,.string a1_1,.int .i64 a1_0,.int .i64 t134] 23 (0,0))):=⟨by (with_reducible repeat (first|refine blk_drewN ?_ _|refine blk_drew ?_|refine blk_alloc ?_ _));refine blk_far ?_ NB130_136.out _;(with_reducible repeat (first|refine blk_drewN ?_ _|refine blk_drew ?_|refine blk_alloc ?_ _));refine blk_far ?_ NB130_136.out _;(with_reducible repeat (first|refine blk_drewN ?_ _|refine blk_drew ?_|refine blk_alloc ?_ _));refine blk_far ?_ NB130_136.out _;(with_reducible repeat (first|refine blk_drewN ?_ _|refine blk_drew ?_|refine blk_alloc ?_ _));refine blk_far ?_ NB130_136.out _;(with_reducible repeat (first|refine blk_drewN ?_ _|refine blk_drew ?_|refine blk_alloc ?_ _));exact BK130.out⟩;have n2_ : Aside0 (((((w36.setCell ⟨gb136,0,none⟩ (.int .i64 ((rd_T23 l0 x54_1).f0))).setCell ⟨gb136,1,none⟩ (.string ((rd_T23 l0 x54_1).f1))).setCell ⟨gb136,2,none⟩ (.int .i64 ((rd_T23 l0 x54_1).f2))).setCell ⟨gb136,3,none⟩ (.int .i64 ((rd_T23 l0 x54_1).f3))).heap[gb136]? = some (.cells #[.int .i64 ((rd_T23 l0 x54_1).f0),.string ((rd_T23 l0 x54_1).f1),.int .i64 ((rd_T23 l0 x54_1).f2),.int .i64 ((rd_T23 l0 x54_1).f3)] 23 (0,0))):=⟨by (with_reducible repeat (first|refine blk_drewN ?_ _|refine blk_drew ?_|refine blk_alloc ?_ _));refine blk_put (cs:=#[.int .i64 ((rd_T23 l0 x54_1).f0),.string ((rd_T23 l0 x54_1).f1),.int .i64 ((rd_T23 l0 x54_1).f2),.int .i64 0]) ?_ 3 _ rfl;(with_reducible repeat (first|refine blk_drewN ?_ _|refine blk_drew ?_|refine blk_alloc ?_ _));refine blk_put (cs:=#[.int .i64 ((rd_T23 l0 x54_1).f0),.string ((rd_T23 l0 x54_1).f1),.int .i64 0,.int .i64 0]) ?_ 2 _ rfl;(with_reducible repeat (first|refine blk_drewN ?_ _|refine blk_drew ?_|refine blk_alloc ?_ _));refine blk_put (cs:=#[.int .i64 ((rd_T23 l0 x54_1).f0),.string (⟨#[]⟩ : ByteArray),.int .i64 0,.int .i64 0]) ?_ 1 _ rfl;(with_reducible repeat (first|refine blk_drewN ?_ _|refine blk_drew ?_|refine blk_alloc ?_ _));refine blk_put (cs:=#[.int .i64 0,.string (⟨#[]⟩ : ByteArray),.int .i64 0,.int .i64 0]) ?_ 0 _ rfl;(with_reducible repeat (first|refine blk_drewN ?_ _|refine blk_drew ?_|refine blk_alloc ?_ _));exact BK136.out⟩;have n3_ : Aside0 (Below w.heap.size w ((((w36.setCell ⟨gb136,0,none⟩ (.int .i64 ((rd_T23 l0 x54_1).f0))).setCell ⟨gb136,1,none⟩ (.string ((rd_T23 l0 x54_1).f1))).setCell ⟨gb136,2,none⟩ (.int .i64 ((rd_T23 l0 x54_1).f2))).setCell ⟨gb136,3,none⟩ (.int .i64 ((rd_T23 l0 x54_1).f3)))):=⟨by repeat (first|(with_reducible first|exact HB.out|apply below_alloc|apply pw_below_drewN|apply below_drew1|refine below_set ?_ GE130.out|refine below_set ?_ GE136.out)|exact HB.out)⟩;(try clear HO_9);(try clear BK130);(try clear BK136);(try clear HB);generalize ((((w36.setCell ⟨gb136,0,none⟩ (.int .i64 ((rd_T23 l0 x54_1).f0))).setCell ⟨gb136,1,none⟩ (.string ((rd_T23 l0 x54_1).f1))).setCell ⟨gb136,2,none⟩ (.int .i64 ((rd_T23 l0 x54_1).f2))).setCell ⟨gb136,3,none⟩ (.int .i64 ((rd_T23 l0 x54_1).f3))) = w39 at n0_ n1_ n2_ n3_ ⊢;have HO_9:=n0_;have BK130:=n1_;have BK136:=n2_;have HB:=n3_;clear n0_ n1_ n2_ n3_;have n0_:=Aside0.mk (Kd.R_drew HO_9.out);have n1_:=Aside0.mk (blk_drew BK130.out);have n2_:=Aside0.mk (blk_drew BK136.out);have n3_:=Aside0.mk (below_drew1 HB.out);clear HO_9;clear BK130;clear BK136;clear HB;have HO_9:=n0_;have BK130:=n1_;have BK136:=n2_;have HB:=n3_;clear n0_ n1_ n2_ n3_;refine start_ (n:=5) (S:=fun w'=>w'.cell? ⟨gb136,0,none⟩ = some (.int .i64 ((rd_T23 l0 x54_1).f0))∧w'.cell? ⟨gb136,1,none⟩ = some (.string ((rd_T23 l0 x54_1).f1))∧w'.cell? ⟨gb136,2,none⟩ = some (.int .i64 ((rd_T23 l0 x54_1).f2))∧w'.cell? ⟨gb136,3,none⟩ = some (.int .i64 ((rd_T23 l0 x54_1).f3))∧w'.cell? ⟨gb130,0,none⟩ = some (.int .i64 a1_0)∧w'.cell? ⟨gb130,1,none⟩ = some (.string a1_1)∧w'.cell? ⟨gb130,2,none⟩ = some (.int .i64 a1_0)∧w'.cell? ⟨gb130,3,none⟩ = some (.int .i64 t134)) (ds:=[]) (lb 5 0) (by kernel_rfl) rfl (by kernel_rfl) ⟨(blk_cell BK136.out 0).trans rfl,(blk_cell BK136.out 1).trans rfl,(blk_cell BK136.out 2).trans rfl,(blk_cell BK136.out 3).trans rfl,(blk_cell BK130.out 0).trans rfl,(blk_cell BK130.out 1).trans rfl,(blk_cell BK130.out 2).trans rfl,(blk_cell BK130.out 3).trans rfl⟩ (fun hHeld=>?_);generalize w39.drew = w40 at HO_9 BK130 BK136 HB hHeld ⊢;refine pure_ (i:=2) (N:=some 61) (v:=?_) (a':=?_) (lb 5 4) rfl rfl (by kernel_rfl) (fun _ _ _ h=>h) (Or.inl ⟨by rfl,?_⟩) ?_ ?_;rotate_left
             ·
              intro w';go_simp;with_reducible rfl
             rotate_left
             ·
              simp only [Act.put,sqa,sqb,sqc,i64_w,i32_w];rfl
             refine take_ (i:=0) (N:=some 59) (v:=?_) (a':=?_) (lb 5 5) rfl rfl (by kernel_rfl) (fun _ _ _ h=>h) (Or.inl ⟨by rfl,?_⟩) hHeld ?_ ?_;rotate_left
             ·
              rintro w' ⟨s0,s1,s2,s3,s4,s5,s6,s7⟩;go_simp;with_reducible rfl
             rotate_left
             ·
              simp only [Act.put,sqa,sqb,sqc,i64_w,i32_w];rfl
             refine take_ (i:=3) (N:=some 62) (v:=?_) (a':=?_) (lb 5 13) rfl rfl (by kernel_rfl) (fun _ _ _ h=>h) (Or.inl ⟨by rfl,?_⟩) hHeld ?_ ?_;rotate_left
             ·
              rintro w' ⟨s0,s1,s2,s3,s4,s5,s6,s7⟩;go_simp;with_reducible rfl
             rotate_left
             ·
              simp only [Act.put,sqa,sqb,sqc,i64_w,i32_w];rfl
             refine one_ (i:=1) (N:=some 60) (lb 5 15) rfl rfl (by kernel_rfl) (by decide) (fun K hK=>?_);refine goes_ Try.func28 (by kernel_rfl) rfl #[.agg #[.int .i64 ((rd_T23 l0 x54_1).f0),.string ((rd_T23 l0 x54_1).f1),.int .i64 ((rd_T23 l0 x54_1).f2),.int .i64 ((rd_T23 l0 x54_1).f3)]] (by rfl) rfl rfl (by (try simp only [List.map_toArray,List.map_cons,List.map_nil]);first|done|rfl|(simp only [List.length_drop,List.length_take];rfl)) ?_;with_reducible refine (overlap_end.calls ((rd_T23 l0 x54_1).f0) ((rd_T23 l0 x54_1).f1) ((rd_T23 l0 x54_1).f2) ((rd_T23 l0 x54_1).f3) t137 _ A33.out).mono ?_
             rintro e w41 ⟨rfl,hb⟩;refine ⟨_,rfl,?_⟩;have n0_:=Aside0.mk (Kd.R_below (by (with_reducible repeat (first|apply Kd.R_alloc|apply Kd.R_drewN|apply Kd.R_drew));exact HO_9.out) hb);have n1_:=Aside0.mk (blk_below (g:=gb130) (o:=.cells #[.int .i64 a1_0,.string a1_1,.int .i64 a1_0,.int .i64 t134] 23 (0,0)) (by (with_reducible repeat (first|refine blk_drewN ?_ _|refine blk_drew ?_|refine blk_alloc ?_ _));exact BK130.out) hb);have n2_:=Aside0.mk (blk_below (g:=gb136) (o:=.cells #[.int .i64 ((rd_T23 l0 x54_1).f0),.string ((rd_T23 l0 x54_1).f1),.int .i64 ((rd_T23 l0 x54_1).f2),.int .i64 ((rd_T23 l0 x54_1).f3)] 23 (0,0)) (by (with_reducible repeat (first|refine blk_drewN ?_ _|refine blk_drew ?_|refine blk_alloc ?_ _));exact BK136.out) hb);have n3_:=Aside0.mk (below_step (by repeat (first|(with_reducible first|exact HB.out|apply below_alloc|apply pw_below_drewN|apply below_drew1|refine below_set ?_ GE130.out|refine below_set ?_ GE136.out)|exact HB.out)) hb);clear HO_9;clear BK130;clear BK136;clear HB;have HO_9:=n0_;have BK130:=n1_;have BK136:=n2_;have HB:=n3_;clear n0_ n1_ n2_ n3_;(try clear hb);(try clear hb2);(try clear hk);(try clear hi);refine hK.out _ _ ⟨(blk_cell BK136.out 0).trans rfl,(blk_cell BK136.out 1).trans rfl,(blk_cell BK136.out 2).trans rfl,(blk_cell BK136.out 3).trans rfl,(blk_cell BK130.out 0).trans rfl,(blk_cell BK130.out 1).trans rfl,(blk_cell BK130.out 2).trans rfl,(blk_cell BK130.out 3).trans rfl⟩ (fun hHeld=>?_);clear hK K;refine norm_ (a':=?_) ?_ ?_;rotate_left
             ·
              show Act.put _ (some 60) _ = _
              simp only [Act.put,sqa,sqb,sqc,i64_w,i32_w];rfl
             refine pure_ (i:=4) (N:=some 63) (v:=?_) (a':=?_) (lb 5 31) rfl rfl (by kernel_rfl) (fun _ _ _ h=>h) (Or.inl ⟨by rfl,?_⟩) ?_ ?_;rotate_left
             ·
              intro w';go_simp;with_reducible rfl
             rotate_left
             ·
              simp only [Act.put,sqa,sqb,sqc,i64_w,i32_w];rfl
             refine done_ (by kernel_rfl) ?_;have hcz42_0 : w41.cell? ⟨gb136,0,none⟩ = some (.int .i64 ((rd_T23 l0 x54_1).f0)):=(blk_cell BK136.out 0).trans rfl;have hcz42_1 : w41.cell? ⟨gb136,1,none⟩ = some (.string ((rd_T23 l0 x54_1).f1)):=(blk_cell BK136.out 1).trans rfl;have hcz42_2 : w41.cell? ⟨gb136,2,none⟩ = some (.int .i64 ((rd_T23 l0 x54_1).f2)):=(blk_cell BK136.out 2).trans rfl;have hcz42_3 : w41.cell? ⟨gb136,3,none⟩ = some (.int .i64 ((rd_T23 l0 x54_1).f3)):=(blk_cell BK136.out 3).trans rfl;have hfz42_0:=blk_frozen BK136.out 0;have hfz42_1:=blk_frozen BK136.out 1;have hfz42_2:=blk_frozen BK136.out 2;have hfz42_3:=blk_frozen BK136.out 3;obtain ⟨Ao43,co43,eo43⟩:=Kd.R_slice HO_9.out;subst eo43;try go_wp2_with (first|((with_reducible refine gate_callee (f:=29) rfl ?_);refine goesL_ (some 66) rfl rfl Try.func29 (by kernel_rfl) rfl #[.slice Ao43 x9_1.length co43,.agg #[.int .i64 ((rd_T23 l0 x54_1).f0),.string ((rd_T23 l0 x54_1).f1),.int .i64 ((rd_T23 l0 x54_1).f2),.int .i64 ((rd_T23 l0 x54_1).f3)]] rfl (by (try simp only [List.map_toArray,List.map_cons,List.map_nil]);first|done|rfl|(simp only [List.length_drop,List.length_take];rfl)) ?_;(with_reducible refine (overlap_join.calls (fun k_=>some k_ = (.slice Ao43 x9_1.length co43 : Value).ownBlock) (.slice Ao43 x9_1.length co43) x9_1 ((rd_T23 l0 x54_1).f0) ((rd_T23 l0 x54_1).f1) ((rd_T23 l0 x54_1).f2) ((rd_T23 l0 x54_1).f3) t138 w _ ?side1 ?side2 A35.out).mono ?_);(case side1=>repeat (first|(with_reducible first|exact HB.out|apply below_alloc|apply pw_below_drewN|apply below_drew1|refine below_set ?_ GE130.out|refine below_set ?_ GE136.out)|exact HB.out));(case side2=>exact Kd.R_tight rfl HO_9.out);rintro e w44 ⟨v139,rfl,ho0,hb,hkp⟩;refine ⟨_,rfl,?_⟩;have n0_:=Aside0.mk (blk_kept (by (with_reducible repeat (first|refine blk_drewN ?_ _|refine blk_drew ?_|refine blk_alloc ?_ _));exact BK130.out) hkp (fun hs_=>(fun e_=>(Kd.R_away HO_9.out (fun _ hk=>hk.1)) e_) hs_));have n1_:=Aside0.mk (blk_kept (by (with_reducible repeat (first|refine blk_drewN ?_ _|refine blk_drew ?_|refine blk_alloc ?_ _));exact BK136.out) hkp (fun hs_=>(fun e_=>(Kd.R_away HO_9.out (fun _ hk=>hk.2)) e_) hs_));have n2_:=Aside0.mk (Kd.R_mono (ok':=fun k_=>k_≠gb130∧k_≠gb136) ho0 (fun k_ hk_=>⟨Or.elim hk_ (fun hs_=>fun e_=>(Kd.R_away HO_9.out (fun _ hk=>hk.1)) (by rw [← e_];exact hs_)) (fun hn_=>(Kd.freshB (g:=gb130) (o:=.cells #[.int .i64 a1_0,.string a1_1,.int .i64 a1_0,.int .i64 t134] 23 (0,0)) (by (with_reducible repeat (first|refine blk_drewN ?_ _|refine blk_drew ?_|refine blk_alloc ?_ _));exact BK130.out) k_ hn_)),Or.elim hk_ (fun hs_=>fun e_=>(Kd.R_away HO_9.out (fun _ hk=>hk.2)) (by rw [← e_];exact hs_)) (fun hn_=>(Kd.freshB (g:=gb136) (o:=.cells #[.int .i64 ((rd_T23 l0 x54_1).f0),.string ((rd_T23 l0 x54_1).f1),.int .i64 ((rd_T23 l0 x54_1).f2),.int .i64 ((rd_T23 l0 x54_1).f3)] 23 (0,0)) (by (with_reducible repeat (first|refine blk_drewN ?_ _|refine blk_drew ?_|refine blk_alloc ?_ _));exact BK136.out) k_ hn_))⟩));have n3_:=Aside0.mk (hb);clear BK130;clear BK136;clear HB;clear HO_9;have BK130:=n0_;have BK136:=n1_;have HO140:=n2_;have HB:=n3_;clear n0_ n1_ n2_ n3_;(try clear hb);(try clear hkp);(try clear ho0)))
             go_roundg k1
             case measure=>have:=HK1.out;omega
             case rel=>exact ⟨(t138),(x10_1),(x11_1),(x12_1),(wrap64 (x54_1 + 1)),(by first|rfl|(simp;done)|(simp [*];done)),(by first|rfl|(simp;done)|(simp [*];done)),(by first|rfl|(simp;done)|(simp [*];done)),(by first|rfl|(simp;done)|(simp [*];done)),H',⟨by have:=HK1.out;omega⟩,⟨by (with_reducible repeat (first|apply Kd.R_alloc|apply Kd.R_drewN|apply Kd.R_drew));exact Kd.R_mono HO140.out (fun _ hk=>hk.1)⟩,⟨by (with_reducible repeat (first|refine blk_drewN ?_ _|refine blk_drew ?_|refine blk_alloc ?_ _));exact BK130.out⟩,⟨by repeat (first|(with_reducible first|exact HB.out|apply below_alloc|apply pw_below_drewN|apply below_drew1|refine below_set ?_ GE130.out|refine below_set ?_ GE136.out)|exact HB.out)⟩⟩
            ·
             rw [if_neg c34] at H;have c34b0 : decide (t137≤a1_0) = false:=decide_eq_false c34;clear c34;by_cases c45 : ((rd_T23 l0 x54_1).f0)≥t134
             ·
              rw [if_pos c45] at H;have c45b0 : decide (t134≤((rd_T23 l0 x54_1).f0)) = true:=decide_eq_true c45;clear c45;have HC46:=Aside0.mk H;clear H;have p135 : 0≤(x54_1 : Int):=of_decide_eq_true (by first|(with_reducible assumption)|assumption);have q135 : x54_1 < (l0.length : Int):=of_decide_eq_true (by first|(with_reducible assumption)|assumption);obtain ⟨ad135,e135,hx135_0,hx135_1,hx135_2,hx135_3⟩:=at_T23 HR0.out x54_1 p135 q135;cases e135;replace hx135_0:=(HB.out.cell (World.block_lt_of_cell? w _ hx135_0)).trans hx135_0;replace hx135_1:=(HB.out.cell (World.block_lt_of_cell? w _ hx135_1)).trans hx135_1;replace hx135_2:=(HB.out.cell (World.block_lt_of_cell? w _ hx135_2)).trans hx135_2;replace hx135_3:=(HB.out.cell (World.block_lt_of_cell? w _ hx135_3)).trans hx135_3;replace p135:=eq_true p135;replace q135:=eq_true q135;try go_wp2_with (first|((with_reducible refine gate_dst (N:=14) rfl ?_);refine box_event ?hg (N:=14) ?hd (cs:=#[.int .i64 0,.string (⟨#[]⟩ : ByteArray),.int .i64 0,.int .i64 0]) (t:=23) ?hr ?_;(case hd=>rfl);(case hg=>rfl);(case hr=>first|(go_simp;done)|(go_simp;rfl));intro gb136 hg w47 hbox hb;have n0_:=Aside0.mk (Kd.R_below (Kd.R_elderB (by (with_reducible repeat (first|apply Kd.R_alloc|apply Kd.R_drewN|apply Kd.R_drew));exact HO_9.out) gb136 (Nat.le_of_eq hg.symm)) hb);have n1_:=Aside0.mk (blk_below (g:=gb130) (o:=.cells #[.int .i64 a1_0,.string a1_1,.int .i64 a1_0,.int .i64 t134] 23 (0,0)) (by (with_reducible repeat (first|refine blk_drewN ?_ _|refine blk_drew ?_|refine blk_alloc ?_ _));exact BK130.out) hb);have n2_:=Aside0.mk (below_step (by repeat (first|(with_reducible first|exact HB.out|apply below_alloc|apply pw_below_drewN|apply below_drew1|refine below_set ?_ GE130.out)|exact HB.out)) hb);have n3_:=Aside0.mk (hbox);have n4_:=Aside0.mk ((by rw [hg];exact (below_size (by repeat (first|(with_reducible first|exact HB.out|apply below_alloc|apply pw_below_drewN|apply below_drew1|refine below_set ?_ GE130.out)|exact HB.out))) : w.heap.size≤gb136));have n5_:=Aside0.mk ((by rw [hg];exact (below_size (by repeat (first|(with_reducible first|exact HB.out|apply below_alloc|apply pw_below_drewN|apply below_drew1|refine below_set ?_ GE130.out)|exact HB.out))) : w.heap.size≤gb136));have n6_:=Aside0.mk ((by rw [hg];exact Nat.ne_of_lt (blk_lt (g:=gb130) (o:=.cells #[.int .i64 a1_0,.string a1_1,.int .i64 a1_0,.int .i64 t134] 23 (0,0)) (by (with_reducible repeat (first|refine blk_drewN ?_ _|refine blk_drew ?_|refine blk_alloc ?_ _));exact BK130.out)) : gb130≠gb136));have n7_:=Aside0.mk ((by rw [hg];exact Nat.ne_of_gt (blk_lt (g:=gb130) (o:=.cells #[.int .i64 a1_0,.string a1_1,.int .i64 a1_0,.int .i64 t134] 23 (0,0)) (by (with_reducible repeat (first|refine blk_drewN ?_ _|refine blk_drew ?_|refine blk_alloc ?_ _));exact BK130.out)) : gb136≠gb130));clear HO_9;clear BK130;clear HB;have HO_9:=n0_;have BK130:=n1_;have HB:=n2_;have BK136:=n3_;have GW136:=n4_;have GE136:=n5_;have NB130_136:=n6_;have NB136_130:=n7_;clear n0_ n1_ n2_ n3_ n4_ n5_ n6_ n7_;clear hb hbox hg;have hnb48:=NB136_130.out;have hnc48:=NB130_136.out;have hcz49_0 : w47.cell? ⟨gb136,0,none⟩ = some (.int .i64 0):=(blk_cell BK136.out 0).trans rfl;have hcz49_1 : w47.cell? ⟨gb136,1,none⟩ = some (.string (⟨#[]⟩ : ByteArray)):=(blk_cell BK136.out 1).trans rfl;have hcz49_2 : w47.cell? ⟨gb136,2,none⟩ = some (.int .i64 0):=(blk_cell BK136.out 2).trans rfl;have hcz49_3 : w47.cell? ⟨gb136,3,none⟩ = some (.int .i64 0):=(blk_cell BK136.out 3).trans rfl;have hfz49_0:=blk_frozen BK136.out 0;have hfz49_1:=blk_frozen BK136.out 1;have hfz49_2:=blk_frozen BK136.out 2;have hfz49_3:=blk_frozen BK136.out 3))
              have n0_ : Aside0 (Kd.R k23 23 ((((w47.setCell ⟨gb136,0,none⟩ (.int .i64 ((rd_T23 l0 x54_1).f0))).setCell ⟨gb136,1,none⟩ (.string ((rd_T23 l0 x54_1).f1))).setCell ⟨gb136,2,none⟩ (.int .i64 ((rd_T23 l0 x54_1).f2))).setCell ⟨gb136,3,none⟩ (.int .i64 ((rd_T23 l0 x54_1).f3))) w.heap.size (fun k_=>k_≠gb130∧k_≠gb136) u9 x9_1):=⟨by (with_reducible repeat (first|apply Kd.R_alloc|apply Kd.R_drewN|apply Kd.R_drew));exact Kd.R_mono (Kd.R_far (p:=⟨gb136,3,none⟩) (Kd.R_far (p:=⟨gb136,2,none⟩) (Kd.R_far (p:=⟨gb136,1,none⟩) (Kd.R_far (p:=⟨gb136,0,none⟩) (Kd.R_mono HO_9.out (fun k_ hk=>(⟨hk,hk.2⟩ : _∧k_≠gb136))) (fun _ hk=>hk.2) (.int .i64 ((rd_T23 l0 x54_1).f0))) (fun _ hk=>hk.2) (.string ((rd_T23 l0 x54_1).f1))) (fun _ hk=>hk.2) (.int .i64 ((rd_T23 l0 x54_1).f2))) (fun _ hk=>hk.2) (.int .i64 ((rd_T23 l0 x54_1).f3))) (fun _ hk=>⟨hk.1.1,hk.1.2⟩)⟩;have n1_ : Aside0 (((((w47.setCell ⟨gb136,0,none⟩ (.int .i64 ((rd_T23 l0 x54_1).f0))).setCell ⟨gb136,1,none⟩ (.string ((rd_T23 l0 x54_1).f1))).setCell ⟨gb136,2,none⟩ (.int .i64 ((rd_T23 l0 x54_1).f2))).setCell ⟨gb136,3,none⟩ (.int .i64 ((rd_T23 l0 x54_1).f3))).heap[gb130]? = some (.cells #[.int .i64 a1_0,.string a1_1,.int .i64 a1_0,.int .i64 t134] 23 (0,0))):=⟨by (with_reducible repeat (first|refine blk_drewN ?_ _|refine blk_drew ?_|refine blk_alloc ?_ _));refine blk_far ?_ NB130_136.out _;(with_reducible repeat (first|refine blk_drewN ?_ _|refine blk_drew ?_|refine blk_alloc ?_ _));refine blk_far ?_ NB130_136.out _;(with_reducible repeat (first|refine blk_drewN ?_ _|refine blk_drew ?_|refine blk_alloc ?_ _));refine blk_far ?_ NB130_136.out _;(with_reducible repeat (first|refine blk_drewN ?_ _|refine blk_drew ?_|refine blk_alloc ?_ _));refine blk_far ?_ NB130_136.out _;(with_reducible repeat (first|refine blk_drewN ?_ _|refine blk_drew ?_|refine blk_alloc ?_ _));exact BK130.out⟩;have n2_ : Aside0 (((((w47.setCell ⟨gb136,0,none⟩ (.int .i64 ((rd_T23 l0 x54_1).f0))).setCell ⟨gb136,1,none⟩ (.string ((rd_T23 l0 x54_1).f1))).setCell ⟨gb136,2,none⟩ (.int .i64 ((rd_T23 l0 x54_1).f2))).setCell ⟨gb136,3,none⟩ (.int .i64 ((rd_T23 l0 x54_1).f3))).heap[gb136]? = some (.cells #[.int .i64 ((rd_T23 l0 x54_1).f0),.string ((rd_T23 l0 x54_1).f1),.int .i64 ((rd_T23 l0 x54_1).f2),.int .i64 ((rd_T23 l0 x54_1).f3)] 23 (0,0))):=⟨by (with_reducible repeat (first|refine blk_drewN ?_ _|refine blk_drew ?_|refine blk_alloc ?_ _));refine blk_put (cs:=#[.int .i64 ((rd_T23 l0 x54_1).f0),.string ((rd_T23 l0 x54_1).f1),.int .i64 ((rd_T23 l0 x54_1).f2),.int .i64 0]) ?_ 3 _ rfl;(with_reducible repeat (first|refine blk_drewN ?_ _|refine blk_drew ?_|refine blk_alloc ?_ _));refine blk_put (cs:=#[.int .i64 ((rd_T23 l0 x54_1).f0),.string ((rd_T23 l0 x54_1).f1),.int .i64 0,.int .i64 0]) ?_ 2 _ rfl;(with_reducible repeat (first|refine blk_drewN ?_ _|refine blk_drew ?_|refine blk_alloc ?_ _));refine blk_put (cs:=#[.int .i64 ((rd_T23 l0 x54_1).f0),.string (⟨#[]⟩ : ByteArray),.int .i64 0,.int .i64 0]) ?_ 1 _ rfl;(with_reducible repeat (first|refine blk_drewN ?_ _|refine blk_drew ?_|refine blk_alloc ?_ _));refine blk_put (cs:=#[.int .i64 0,.string (⟨#[]⟩ : ByteArray),.int .i64 0,.int .i64 0]) ?_ 0 _ rfl;(with_reducible repeat (first|refine blk_drewN ?_ _|refine blk_drew ?_|refine blk_alloc ?_ _));exact BK136.out⟩;have n3_ : Aside0 (Below w.heap.size w ((((w47.setCell ⟨gb136,0,none⟩ (.int .i64 ((rd_T23 l0 x54_1).f0))).setCell ⟨gb136,1,none⟩ (.string ((rd_T23 l0 x54_1).f1))).setCell ⟨gb136,2,none⟩ (.int .i64 ((rd_T23 l0 x54_1).f2))).setCell ⟨gb136,3,none⟩ (.int .i64 ((rd_T23 l0 x54_1).f3)))):=⟨by repeat (first|(with_reducible first|exact HB.out|apply below_alloc|apply pw_below_drewN|apply below_drew1|refine below_set ?_ GE130.out|refine below_set ?_ GE136.out)|exact HB.out)⟩;(try clear HO_9);(try clear BK130);(try clear BK136);(try clear HB);generalize ((((w47.setCell ⟨gb136,0,none⟩ (.int .i64 ((rd_T23 l0 x54_1).f0))).setCell ⟨gb136,1,none⟩ (.string ((rd_T23 l0 x54_1).f1))).setCell ⟨gb136,2,none⟩ (.int .i64 ((rd_T23 l0 x54_1).f2))).setCell ⟨gb136,3,none⟩ (.int .i64 ((rd_T23 l0 x54_1).f3))) = w50 at n0_ n1_ n2_ n3_ ⊢;have HO_9:=n0_;have BK130:=n1_;have BK136:=n2_;have HB:=n3_;clear n0_ n1_ n2_ n3_;have n0_:=Aside0.mk (Kd.R_drew HO_9.out);have n1_:=Aside0.mk (blk_drew BK130.out);have n2_:=Aside0.mk (blk_drew BK136.out);have n3_:=Aside0.mk (below_drew1 HB.out);clear HO_9;clear BK130;clear BK136;clear HB;have HO_9:=n0_;have BK130:=n1_;have BK136:=n2_;have HB:=n3_;clear n0_ n1_ n2_ n3_;refine start_ (n:=5) (S:=fun w'=>w'.cell? ⟨gb136,0,none⟩ = some (.int .i64 ((rd_T23 l0 x54_1).f0))∧w'.cell? ⟨gb136,1,none⟩ = some (.string ((rd_T23 l0 x54_1).f1))∧w'.cell? ⟨gb136,2,none⟩ = some (.int .i64 ((rd_T23 l0 x54_1).f2))∧w'.cell? ⟨gb136,3,none⟩ = some (.int .i64 ((rd_T23 l0 x54_1).f3))∧w'.cell? ⟨gb130,0,none⟩ = some (.int .i64 a1_0)∧w'.cell? ⟨gb130,1,none⟩ = some (.string a1_1)∧w'.cell? ⟨gb130,2,none⟩ = some (.int .i64 a1_0)∧w'.cell? ⟨gb130,3,none⟩ = some (.int .i64 t134)) (ds:=[]) (lb 5 0) (by kernel_rfl) rfl (by kernel_rfl) ⟨(blk_cell BK136.out 0).trans rfl,(blk_cell BK136.out 1).trans rfl,(blk_cell BK136.out 2).trans rfl,(blk_cell BK136.out 3).trans rfl,(blk_cell BK130.out 0).trans rfl,(blk_cell BK130.out 1).trans rfl,(blk_cell BK130.out 2).trans rfl,(blk_cell BK130.out 3).trans rfl⟩ (fun hHeld=>?_);generalize w50.drew = w51 at HO_9 BK130 BK136 HB hHeld ⊢;refine pure_ (i:=2) (N:=some 61) (v:=?_) (a':=?_) (lb 5 4) rfl rfl (by kernel_rfl) (fun _ _ _ h=>h) (Or.inl ⟨by rfl,?_⟩) ?_ ?_;rotate_left
              ·
               intro w';go_simp;with_reducible rfl
              rotate_left
              ·
               simp only [Act.put,sqa,sqb,sqc,i64_w,i32_w];rfl
              refine take_ (i:=0) (N:=some 59) (v:=?_) (a':=?_) (lb 5 5) rfl rfl (by kernel_rfl) (fun _ _ _ h=>h) (Or.inl ⟨by rfl,?_⟩) hHeld ?_ ?_;rotate_left
              ·
               rintro w' ⟨s0,s1,s2,s3,s4,s5,s6,s7⟩;go_simp;with_reducible rfl
              rotate_left
              ·
               simp only [Act.put,sqa,sqb,sqc,i64_w,i32_w];rfl
              refine take_ (i:=3) (N:=some 62) (v:=?_) (a':=?_) (lb 5 13) rfl rfl (by kernel_rfl) (fun _ _ _ h=>h) (Or.inl ⟨by rfl,?_⟩) hHeld ?_ ?_;rotate_left
              ·
               rintro w' ⟨s0,s1,s2,s3,s4,s5,s6,s7⟩;go_simp;with_reducible rfl
              rotate_left
              ·
               simp only [Act.put,sqa,sqb,sqc,i64_w,i32_w];rfl
              refine one_ (i:=1) (N:=some 60) (lb 5 15) rfl rfl (by kernel_rfl) (by decide) (fun K hK=>?_);refine goes_ Try.func28 (by kernel_rfl) rfl #[.agg #[.int .i64 ((rd_T23 l0 x54_1).f0),.string ((rd_T23 l0 x54_1).f1),.int .i64 ((rd_T23 l0 x54_1).f2),.int .i64 ((rd_T23 l0 x54_1).f3)]] (by rfl) rfl rfl (by (try simp only [List.map_toArray,List.map_cons,List.map_nil]);first|done|rfl|(simp only [List.length_drop,List.length_take];rfl)) ?_;with_reducible refine (overlap_end.calls ((rd_T23 l0 x54_1).f0) ((rd_T23 l0 x54_1).f1) ((rd_T23 l0 x54_1).f2) ((rd_T23 l0 x54_1).f3) t137 _ A33.out).mono ?_
              rintro e w52 ⟨rfl,hb⟩;refine ⟨_,rfl,?_⟩;have n0_:=Aside0.mk (Kd.R_below (by (with_reducible repeat (first|apply Kd.R_alloc|apply Kd.R_drewN|apply Kd.R_drew));exact HO_9.out) hb);have n1_:=Aside0.mk (blk_below (g:=gb130) (o:=.cells #[.int .i64 a1_0,.string a1_1,.int .i64 a1_0,.int .i64 t134] 23 (0,0)) (by (with_reducible repeat (first|refine blk_drewN ?_ _|refine blk_drew ?_|refine blk_alloc ?_ _));exact BK130.out) hb);have n2_:=Aside0.mk (blk_below (g:=gb136) (o:=.cells #[.int .i64 ((rd_T23 l0 x54_1).f0),.string ((rd_T23 l0 x54_1).f1),.int .i64 ((rd_T23 l0 x54_1).f2),.int .i64 ((rd_T23 l0 x54_1).f3)] 23 (0,0)) (by (with_reducible repeat (first|refine blk_drewN ?_ _|refine blk_drew ?_|refine blk_alloc ?_ _));exact BK136.out) hb);have n3_:=Aside0.mk (below_step (by repeat (first|(with_reducible first|exact HB.out|apply below_alloc|apply pw_below_drewN|apply below_drew1|refine below_set ?_ GE130.out|refine below_set ?_ GE136.out)|exact HB.out)) hb);clear HO_9;clear BK130;clear BK136;clear HB;have HO_9:=n0_;have BK130:=n1_;have BK136:=n2_;have HB:=n3_;clear n0_ n1_ n2_ n3_;(try clear hb);(try clear hb2);(try clear hk);(try clear hi);refine hK.out _ _ ⟨(blk_cell BK136.out 0).trans rfl,(blk_cell BK136.out 1).trans rfl,(blk_cell BK136.out 2).trans rfl,(blk_cell BK136.out 3).trans rfl,(blk_cell BK130.out 0).trans rfl,(blk_cell BK130.out 1).trans rfl,(blk_cell BK130.out 2).trans rfl,(blk_cell BK130.out 3).trans rfl⟩ (fun hHeld=>?_);clear hK K;refine norm_ (a':=?_) ?_ ?_;rotate_left
              ·
               show Act.put _ (some 60) _ = _
               simp only [Act.put,sqa,sqb,sqc,i64_w,i32_w];rfl
              refine pure_ (i:=4) (N:=some 63) (v:=?_) (a':=?_) (lb 5 31) rfl rfl (by kernel_rfl) (fun _ _ _ h=>h) (Or.inl ⟨by rfl,?_⟩) ?_ ?_;rotate_left
              ·
               intro w';go_simp;with_reducible rfl
              rotate_left
              ·
               simp only [Act.put,sqa,sqb,sqc,i64_w,i32_w];rfl
              refine done_ (by kernel_rfl) ?_;have hcz53_0 : w52.cell? ⟨gb136,0,none⟩ = some (.int .i64 ((rd_T23 l0 x54_1).f0)):=(blk_cell BK136.out 0).trans rfl;have hcz53_1 : w52.cell? ⟨gb136,1,none⟩ = some (.string ((rd_T23 l0 x54_1).f1)):=(blk_cell BK136.out 1).trans rfl;have hcz53_2 : w52.cell? ⟨gb136,2,none⟩ = some (.int .i64 ((rd_T23 l0 x54_1).f2)):=(blk_cell BK136.out 2).trans rfl;have hcz53_3 : w52.cell? ⟨gb136,3,none⟩ = some (.int .i64 ((rd_T23 l0 x54_1).f3)):=(blk_cell BK136.out 3).trans rfl;have hfz53_0:=blk_frozen BK136.out 0;have hfz53_1:=blk_frozen BK136.out 1;have hfz53_2:=blk_frozen BK136.out 2;have hfz53_3:=blk_frozen BK136.out 3;have hcz54_0 : w52.cell? ⟨gb130,0,none⟩ = some (.int .i64 a1_0):=(blk_cell BK130.out 0).trans rfl;have hcz54_1 : w52.cell? ⟨gb130,1,none⟩ = some (.string a1_1):=(blk_cell BK130.out 1).trans rfl;have hcz54_2 : w52.cell? ⟨gb130,2,none⟩ = some (.int .i64 a1_0):=(blk_cell BK130.out 2).trans rfl;have hcz54_3 : w52.cell? ⟨gb130,3,none⟩ = some (.int .i64 t134):=(blk_cell BK130.out 3).trans rfl;have hfz54_0:=blk_frozen BK130.out 0;have hfz54_1:=blk_frozen BK130.out 1;have hfz54_2:=blk_frozen BK130.out 2;have hfz54_3:=blk_frozen BK130.out 3;go_upto_if 75 with (fail)
              (try (go_step3;go_upto_if 75 with (fail)));go_cut [9,12] (fun v9 v12 wc=>∃ (kq : Nat) (x9_45 : List (S23)) (x12_45 : Int),v12 = .int .i64 x12_45∧Aside0 (overlap_Insert.j1 kq l0 a2 x9_45 x10_1 x11_1 x12_45 x54_1 a1_0 a1_1 a1_0 t134 = some (r1,r2,r3))∧Aside0 (kq≤k1)∧Aside0 (Kd.R k23 23 wc w.heap.size (fun k_=>k_≠gb130∧k_≠gb136) v9 x9_45)∧Aside0 (wc.heap[gb130]? = some (.cells #[.int .i64 a1_0,.string a1_1,.int .i64 a1_0,.int .i64 t134] 23 (0,0)))∧Aside0 (wc.heap[gb136]? = some (.cells #[.int .i64 ((rd_T23 l0 x54_1).f0),.string ((rd_T23 l0 x54_1).f1),.int .i64 ((rd_T23 l0 x54_1).f2),.int .i64 ((rd_T23 l0 x54_1).f3)] 23 (0,0)))∧Aside0 (Below w.heap.size w wc))
              case first=>
               have H:=HC46.out;clear HC46;by_cases c55 : x12_1 < t134
               ·
                rw [if_pos c55] at H;have c55b0 : decide (x12_1 < t134) = true:=decide_eq_true c55;clear c55;(first|rw [c55b0]|(simp only [i64_w,i32_w];rw [c55b0])|skip)
                replace H:=Option.bind_eq_some_iff.mp H;obtain ⟨⟨t141,t142,t143,t144⟩,A560,H⟩:=H;replace H : ((overlap_join.f x9_1 t141 t142 t143 t144).bind fun t145=>(overlap_Insert.j1 k1 l0 a2 t145 x10_1 x11_1 t134 x54_1 a1_0 a1_1 a1_0 t134)) = some (r1,r2,r3):=H;have A56:=Aside0.mk A560;clear A560;replace H:=Option.bind_eq_some_iff.mp H;obtain ⟨t145,A570,H⟩:=H;replace H : (overlap_Insert.j1 k1 l0 a2 t145 x10_1 x11_1 t134 x54_1 a1_0 a1_1 a1_0 t134) = some (r1,r2,r3):=H;have A57:=Aside0.mk A570;clear A570;have H':=Aside0.mk H;clear H;have hnb58:=NB130_136.out;have hnc58:=NB136_130.out;have hcz59_0 : w52.cell? ⟨gb130,0,none⟩ = some (.int .i64 a1_0):=(blk_cell BK130.out 0).trans rfl;have hcz59_1 : w52.cell? ⟨gb130,1,none⟩ = some (.string a1_1):=(blk_cell BK130.out 1).trans rfl;have hcz59_2 : w52.cell? ⟨gb130,2,none⟩ = some (.int .i64 a1_0):=(blk_cell BK130.out 2).trans rfl;have hcz59_3 : w52.cell? ⟨gb130,3,none⟩ = some (.int .i64 t134):=(blk_cell BK130.out 3).trans rfl;have hfz59_0:=blk_frozen BK130.out 0;have hfz59_1:=blk_frozen BK130.out 1;have hfz59_2:=blk_frozen BK130.out 2;have hfz59_3:=blk_frozen BK130.out 3;go_wp2_with (first|((with_reducible refine gate_callee (f:=30) rfl ?_);refine goesL_ (some 81) rfl rfl Try.func30 (by kernel_rfl) rfl #[.agg #[.int .i64 a1_0,.string a1_1,.int .i64 a1_0,.int .i64 t134],.int .i64 x12_1,.int .i64 t134] rfl (by (try simp only [List.map_toArray,List.map_cons,List.map_nil]);first|done|rfl|(simp only [List.length_drop,List.length_take];rfl)) ?_;(with_reducible refine (overlap_part.calls a1_0 a1_1 a1_0 t134 x12_1 t134 t141 t142 t143 t144 _ A56.out).mono ?_);rintro e w60 ⟨rfl,hb⟩;refine ⟨_,rfl,?_⟩;have n0_:=Aside0.mk (Kd.R_below (by (with_reducible repeat (first|apply Kd.R_alloc|apply Kd.R_drewN|apply Kd.R_drew));exact HO_9.out) hb);have n1_:=Aside0.mk (blk_below (g:=gb130) (o:=.cells #[.int .i64 a1_0,.string a1_1,.int .i64 a1_0,.int .i64 t134] 23 (0,0)) (by (with_reducible repeat (first|refine blk_drewN ?_ _|refine blk_drew ?_|refine blk_alloc ?_ _));exact BK130.out) hb);have n2_:=Aside0.mk (blk_below (g:=gb136) (o:=.cells #[.int .i64 ((rd_T23 l0 x54_1).f0),.string ((rd_T23 l0 x54_1).f1),.int .i64 ((rd_T23 l0 x54_1).f2),.int .i64 ((rd_T23 l0 x54_1).f3)] 23 (0,0)) (by (with_reducible repeat (first|refine blk_drewN ?_ _|refine blk_drew ?_|refine blk_alloc ?_ _));exact BK136.out) hb);have n3_:=Aside0.mk (below_step (by repeat (first|(with_reducible first|exact HB.out|apply below_alloc|apply pw_below_drewN|apply below_drew1|refine below_set ?_ GE130.out|refine below_set ?_ GE136.out)|exact HB.out)) hb);clear HO_9;clear BK130;clear BK136;clear HB;have HO_9:=n0_;have BK130:=n1_;have BK136:=n2_;have HB:=n3_;clear n0_ n1_ n2_ n3_;(try clear hb);(try clear hb2);(try clear hk);(try clear hi);obtain ⟨Ao61,co61,eo61⟩:=Kd.R_slice HO_9.out;subst eo61)|((with_reducible refine gate_callee (f:=29) rfl ?_);refine goesL_ (some 82) rfl rfl Try.func29 (by kernel_rfl) rfl #[.slice Ao61 x9_1.length co61,.agg #[.int .i64 t141,.string t142,.int .i64 t143,.int .i64 t144]] rfl (by (try simp only [List.map_toArray,List.map_cons,List.map_nil]);first|done|rfl|(simp only [List.length_drop,List.length_take];rfl)) ?_;(with_reducible refine (overlap_join.calls (fun k_=>some k_ = (.slice Ao61 x9_1.length co61 : Value).ownBlock) (.slice Ao61 x9_1.length co61) x9_1 t141 t142 t143 t144 t145 w _ ?side1 ?side2 A57.out).mono ?_);(case side1=>repeat (first|(with_reducible first|exact HB.out|apply below_alloc|apply pw_below_drewN|apply below_drew1|refine below_set ?_ GE130.out|refine below_set ?_ GE136.out)|exact HB.out));(case side2=>exact Kd.R_tight rfl HO_9.out);rintro e w62 ⟨v146,rfl,ho0,hb,hkp⟩;refine ⟨_,rfl,?_⟩;have n0_:=Aside0.mk (blk_kept (by (with_reducible repeat (first|refine blk_drewN ?_ _|refine blk_drew ?_|refine blk_alloc ?_ _));exact BK130.out) hkp (fun hs_=>(fun e_=>(Kd.R_away HO_9.out (fun _ hk=>hk.1)) e_) hs_));have n1_:=Aside0.mk (blk_kept (by (with_reducible repeat (first|refine blk_drewN ?_ _|refine blk_drew ?_|refine blk_alloc ?_ _));exact BK136.out) hkp (fun hs_=>(fun e_=>(Kd.R_away HO_9.out (fun _ hk=>hk.2)) e_) hs_));have n2_:=Aside0.mk (Kd.R_mono (ok':=fun k_=>k_≠gb130∧k_≠gb136) ho0 (fun k_ hk_=>⟨Or.elim hk_ (fun hs_=>fun e_=>(Kd.R_away HO_9.out (fun _ hk=>hk.1)) (by rw [← e_];exact hs_)) (fun hn_=>(Kd.freshB (g:=gb130) (o:=.cells #[.int .i64 a1_0,.string a1_1,.int .i64 a1_0,.int .i64 t134] 23 (0,0)) (by (with_reducible repeat (first|refine blk_drewN ?_ _|refine blk_drew ?_|refine blk_alloc ?_ _));exact BK130.out) k_ hn_)),Or.elim hk_ (fun hs_=>fun e_=>(Kd.R_away HO_9.out (fun _ hk=>hk.2)) (by rw [← e_];exact hs_)) (fun hn_=>(Kd.freshB (g:=gb136) (o:=.cells #[.int .i64 ((rd_T23 l0 x54_1).f0),.string ((rd_T23 l0 x54_1).f1),.int .i64 ((rd_T23 l0 x54_1).f2),.int .i64 ((rd_T23 l0 x54_1).f3)] 23 (0,0)) (by (with_reducible repeat (first|refine blk_drewN ?_ _|refine blk_drew ?_|refine blk_alloc ?_ _));exact BK136.out) k_ hn_))⟩));have n3_:=Aside0.mk (hb);clear BK130;clear BK136;clear HB;clear HO_9;have BK130:=n0_;have BK136:=n1_;have HO147:=n2_;have HB:=n3_;clear n0_ n1_ n2_ n3_;(try clear hb);(try clear hkp);(try clear ho0);have hcz63_0 : w62.cell? ⟨gb130,0,none⟩ = some (.int .i64 a1_0):=(blk_cell BK130.out 0).trans rfl;have hcz63_1 : w62.cell? ⟨gb130,1,none⟩ = some (.string a1_1):=(blk_cell BK130.out 1).trans rfl;have hcz63_2 : w62.cell? ⟨gb130,2,none⟩ = some (.int .i64 a1_0):=(blk_cell BK130.out 2).trans rfl;have hcz63_3 : w62.cell? ⟨gb130,3,none⟩ = some (.int .i64 t134):=(blk_cell BK130.out 3).trans rfl;have hfz63_0:=blk_frozen BK130.out 0;have hfz63_1:=blk_frozen BK130.out 1;have hfz63_2:=blk_frozen BK130.out 2;have hfz63_3:=blk_frozen BK130.out 3));go_meet
                case rel=>exact ⟨_,(t145),(t134),(by first|rfl|(simp;done)|(simp [*];done)),H',⟨by have:=HK1.out;first|omega|exact Nat.le_refl _⟩,⟨by (with_reducible repeat (first|apply Kd.R_alloc|apply Kd.R_drewN|apply Kd.R_drew));exact HO147.out⟩,⟨by (with_reducible repeat (first|refine blk_drewN ?_ _|refine blk_drew ?_|refine blk_alloc ?_ _));exact BK130.out⟩,⟨by (with_reducible repeat (first|refine blk_drewN ?_ _|refine blk_drew ?_|refine blk_alloc ?_ _));exact BK136.out⟩,⟨by repeat (first|(with_reducible first|exact HB.out|apply below_alloc|apply pw_below_drewN|apply below_drew1|refine below_set ?_ GE130.out|refine below_set ?_ GE136.out)|exact HB.out)⟩⟩
               ·
                rw [if_neg c55] at H;have c55b0 : decide (x12_1 < t134) = false:=decide_eq_false c55;clear c55;(first|rw [c55b0]|(simp only [i64_w,i32_w];rw [c55b0])|skip)
                have H':=Aside0.mk H;clear H;go_wp2;go_meet
                case rel=>exact ⟨_,(x9_1),(x12_1),(by first|rfl|(simp;done)|(simp [*];done)),H',⟨by have:=HK1.out;first|omega|exact Nat.le_refl _⟩,⟨by (with_reducible repeat (first|apply Kd.R_alloc|apply Kd.R_drewN|apply Kd.R_drew));exact HO_9.out⟩,⟨by (with_reducible repeat (first|refine blk_drewN ?_ _|refine blk_drew ?_|refine blk_alloc ?_ _));exact BK130.out⟩,⟨by (with_reducible repeat (first|refine blk_drewN ?_ _|refine blk_drew ?_|refine blk_alloc ?_ _));exact BK136.out⟩,⟨by repeat (first|(with_reducible first|exact HB.out|apply below_alloc|apply pw_below_drewN|apply below_drew1|refine below_set ?_ GE130.out|refine below_set ?_ GE136.out)|exact HB.out)⟩⟩
              case rest=>
               rename_i z0_ z1_ z2_ z3_ z4_ z5_ z6_ z7_ z8_ z9_ z10_ z11_ z12_ z13_ z14_ z15_ z16_ z17_ z18_ z19_ z20_ z21_ z22_ z23_ z24_ z25_ z26_ z27_ z28_ z29_ z30_ z31_ z32_ z33_ z34_ z35_
                z36_ z37_ z38_ z39_ z40_ z41_ z42_ z43_ z44_ z45_ z46_ z47_ z48_ z49_ z50_ z51_ z52_ z53_ z54_ z55_ z56_ z57_ z58_ z59_ z60_ z61_ z62_ z63_ z64_ z65_ z66_ z67_ z68_ z69_ z70_ z71_
                z72_ z73_ z74_ z75_ z76_ z77_ z78_ z79_ z80_ z81_ z82_ z83_ z84_ z85_ z86_ z87_ z88_ z89_ z90_ z91_ z92_ z93_ z94_ z95_ z96_ z97_ z98_ z99_ z100_ z101_ z102_ z103_ z104_ z105_
                z106_ z107_ z108_ z109_ z110_ z111_ z112_ z113_ z114_ z115_ z116_ z117_ z118_ z119_ z120_ z121_ z122_ z123_ z124_ z125_ z126_ z127_ z128_ z129_ z130_ z131_ z132_ z133_ z134_
               revert k c0 l0 a1_0 a1_1 a1_2 a1_3 a2 r1 r2 r3 w hu23 HC0 t134 A21 z0_ gb130 w23 GW130 GE130 HT_ HW_ w25 z1_ w26 z2_ z3_ z4_ hs27 hfs27 hs28 hfs28 z5_ z6_ z7_ z8_ z9_ wr z10_ u13
                u14 u16 u17 u18 u19 u20 z11_ z12_ z13_ z14_ z15_ z16_ z17_ z18_ z19_ z20_ z21_ z22_ z23_ z24_ z25_ z26_ z27_ z28_ z29_ z30_ z31_ z32_ z33_ z34_ z35_ z36_ z37_ z38_ z39_ z40_ z41_
                z42_ u87 u88 u89 z43_ z44_ z45_ z46_ z47_ z48_ z49_ z50_ z51_ z52_ z53_ z54_ z55_ z56_ z57_ z58_ z59_ z60_ z61_ z62_ z63_ z64_ z65_ z66_ z67_ z68_ z69_ z70_ z71_ z72_ z73_ z74_
                z75_ z76_ z77_ z78_ z79_ z80_ z81_ z82_ z83_ z84_ z85_ z86_ z87_ z88_ z89_ z90_ z91_ z92_ z93_ z94_ z95_ z96_ z97_ z98_ z99_ z100_ z101_ z102_ z103_ z104_ z105_ z106_ z107_ z108_
                z109_ z110_ z111_ z112_ z113_ z114_ z115_ z116_ z117_ z118_ z119_ z120_ z121_ z122_ z123_ z124_ x9_1 x10_1 x11_1 x12_1 x54_1 k1 z125_ HK1 c30b0 c31b0 c32b0 t137 A33 c34b0 c45b0
                HC46 ad135 HR0 z126_ z127_ hx135_0 hx135_1 hx135_2 hx135_3 p135 q135 z128_ z129_ gb136 w47 GW136 GE136 NB130_136 NB136_130 hnb48 hnc48 hcz49_0 hcz49_1 hcz49_2 hcz49_3 hfz49_0
                hfz49_1 hfz49_2 hfz49_3 w50 w51 z130_ w52 HO_9 BK130 BK136 HB hHeld hcz53_0 hcz53_1 hcz53_2 hcz53_3 hfz53_0 hfz53_1 hfz53_2 hfz53_3 hcz54_0 hcz54_1 hcz54_2 hcz54_3 hfz54_0 hfz54_1
                hfz54_2 hfz54_3 z131_ z132_ z133_ z134_ wc u9 u12 u55 u56 u57 u58 u59 u60 u61 u62 u63 u64 u65 u66 u67 u68 u69 u70 u71 u72 u73 u74 u75 u76 u77 u78 u79 u80 u81 u82 u83 u84 u85 u86
                u90 u91 u92 u93 u94 u95 u96 u97 u98 u99 u100 u101 u102 u103 u104 u105 u106 u107 u108 u109 u110 u111 u112 u113 u114 u115 u116 u117 u118 u119 u120 u121 u122 u123 u124 u125 u126 u127
                u128 u129 u130 u131 u132 u133 u134 u135 u136 u137 u138 u139 u140 u141 u142 u143 u144 u145 u146 u147 u148 u149 u150 u151 u152 u153 u154 u155 u156 u157 u158 u159 u160 u161 u162 u163
                u164 u165 u166 u167 u168 u169 hcut
               exact Hrest0_
             ·
              rw [if_neg c45] at H;have c45b0 : decide (t134≤((rd_T23 l0 x54_1).f0)) = false:=decide_eq_false c45;clear c45;obtain ⟨ji79,hji79⟩ : ∃ j_ : Int,(mx ((rd_T23 l0 x54_1).f0) a1_0) = j_:=⟨_,rfl⟩;replace H : ((overlap_end.f ((rd_T23 l0 x54_1).f0) ((rd_T23 l0 x54_1).f1) ((rd_T23 l0 x54_1).f2) ((rd_T23 l0 x54_1).f3)).bind fun t157=>(if ((rd_T23 l0 x54_1).f0) < (ji79) then ((overlap_part.f ((rd_T23 l0 x54_1).f0) ((rd_T23 l0 x54_1).f1) ((rd_T23 l0 x54_1).f2) ((rd_T23 l0 x54_1).f3) ((rd_T23 l0 x54_1).f0) (ji79)).bind fun bt158=>((overlap_join.f x9_1 bt158.1 bt158.2.1 bt158.2.2.1 bt158.2.2.2).bind fun t162=>(overlap_Insert.j3 k1 l0 a2 t162 x10_1 x11_1 x12_1 ji79 (mn t157 t134) l0 (l0.length : Int) x54_1 a1_0 a1_1 a1_0 t134 ((rd_T23 l0 x54_1).f0) ((rd_T23 l0 x54_1).f1) ((rd_T23 l0 x54_1).f2) ((rd_T23 l0 x54_1).f3)))) else (overlap_Insert.j3 k1 l0 a2 x9_1 x10_1 x11_1 x12_1 ji79 (mn t157 t134) l0 (l0.length : Int) x54_1 a1_0 a1_1 a1_0 t134 ((rd_T23 l0 x54_1).f0) ((rd_T23 l0 x54_1).f1) ((rd_T23 l0 x54_1).f2) ((rd_T23 l0 x54_1).f3)))) = some (r1,r2,r3):=by first|(rw [hji79] at H;exact H)|(simp only [hji79] at H ⊢;exact H)
              (try rw [hji79] at A33);have hji79_ : (if ((rd_T23 l0 x54_1).f0) < a1_0 then a1_0 else ((rd_T23 l0 x54_1).f0)) = ji79:=hji79;replace H:=Option.bind_eq_some_iff.mp H;obtain ⟨t157,A800,H⟩:=H;replace H : (if ((rd_T23 l0 x54_1).f0) < (ji79) then ((overlap_part.f ((rd_T23 l0 x54_1).f0) ((rd_T23 l0 x54_1).f1) ((rd_T23 l0 x54_1).f2) ((rd_T23 l0 x54_1).f3) ((rd_T23 l0 x54_1).f0) (ji79)).bind fun bt158=>((overlap_join.f x9_1 bt158.1 bt158.2.1 bt158.2.2.1 bt158.2.2.2).bind fun t162=>(overlap_Insert.j3 k1 l0 a2 t162 x10_1 x11_1 x12_1 ji79 (mn t157 t134) l0 (l0.length : Int) x54_1 a1_0 a1_1 a1_0 t134 ((rd_T23 l0 x54_1).f0) ((rd_T23 l0 x54_1).f1) ((rd_T23 l0 x54_1).f2) ((rd_T23 l0 x54_1).f3)))) else (overlap_Insert.j3 k1 l0 a2 x9_1 x10_1 x11_1 x12_1 ji79 (mn t157 t134) l0 (l0.length : Int) x54_1 a1_0 a1_1 a1_0 t134 ((rd_T23 l0 x54_1).f0) ((rd_T23 l0 x54_1).f1) ((rd_T23 l0 x54_1).f2) ((rd_T23 l0 x54_1).f3))) = some (r1,r2,r3):=H;have A80:=Aside0.mk A800;clear A800;obtain ⟨ji81,hji81⟩ : ∃ j_ : Int,(mn t157 t134) = j_:=⟨_,rfl⟩;replace H : (if ((rd_T23 l0 x54_1).f0) < (ji79) then ((overlap_part.f ((rd_T23 l0 x54_1).f0) ((rd_T23 l0 x54_1).f1) ((rd_T23 l0 x54_1).f2) ((rd_T23 l0 x54_1).f3) ((rd_T23 l0 x54_1).f0) (ji79)).bind fun bt158=>((overlap_join.f x9_1 bt158.1 bt158.2.1 bt158.2.2.1 bt158.2.2.2).bind fun t162=>(overlap_Insert.j3 k1 l0 a2 t162 x10_1 x11_1 x12_1 ji79 ji81 l0 (l0.length : Int) x54_1 a1_0 a1_1 a1_0 t134 ((rd_T23 l0 x54_1).f0) ((rd_T23 l0 x54_1).f1) ((rd_T23 l0 x54_1).f2) ((rd_T23 l0 x54_1).f3)))) else (overlap_Insert.j3 k1 l0 a2 x9_1 x10_1 x11_1 x12_1 ji79 ji81 l0 (l0.length : Int) x54_1 a1_0 a1_1 a1_0 t134 ((rd_T23 l0 x54_1).f0) ((rd_T23 l0 x54_1).f1) ((rd_T23 l0 x54_1).f2) ((rd_T23 l0 x54_1).f3))) = some (r1,r2,r3):=by first|(rw [hji81] at H;exact H)|(simp only [hji81] at H ⊢;exact H)
              (try rw [hji81] at A33);(try rw [hji81] at A80);have hji81_ : (if t134 < t157 then t134 else t157) = ji81:=hji81;have HC82:=Aside0.mk H;clear H;have p135 : 0≤(x54_1 : Int):=of_decide_eq_true (by first|(with_reducible assumption)|assumption);have q135 : x54_1 < (l0.length : Int):=of_decide_eq_true (by first|(with_reducible assumption)|assumption);obtain ⟨ad135,e135,hx135_0,hx135_1,hx135_2,hx135_3⟩:=at_T23 HR0.out x54_1 p135 q135;cases e135;replace hx135_0:=(HB.out.cell (World.block_lt_of_cell? w _ hx135_0)).trans hx135_0;replace hx135_1:=(HB.out.cell (World.block_lt_of_cell? w _ hx135_1)).trans hx135_1;replace hx135_2:=(HB.out.cell (World.block_lt_of_cell? w _ hx135_2)).trans hx135_2;replace hx135_3:=(HB.out.cell (World.block_lt_of_cell? w _ hx135_3)).trans hx135_3;replace p135:=eq_true p135;replace q135:=eq_true q135;try go_wp2_with (first|((with_reducible refine gate_dst (N:=14) rfl ?_);refine box_event ?hg (N:=14) ?hd (cs:=#[.int .i64 0,.string (⟨#[]⟩ : ByteArray),.int .i64 0,.int .i64 0]) (t:=23) ?hr ?_;(case hd=>rfl);(case hg=>rfl);(case hr=>first|(go_simp;done)|(go_simp;rfl));intro gb136 hg w83 hbox hb;have n0_:=Aside0.mk (Kd.R_below (Kd.R_elderB (by (with_reducible repeat (first|apply Kd.R_alloc|apply Kd.R_drewN|apply Kd.R_drew));exact HO_9.out) gb136 (Nat.le_of_eq hg.symm)) hb);have n1_:=Aside0.mk (blk_below (g:=gb130) (o:=.cells #[.int .i64 a1_0,.string a1_1,.int .i64 a1_0,.int .i64 t134] 23 (0,0)) (by (with_reducible repeat (first|refine blk_drewN ?_ _|refine blk_drew ?_|refine blk_alloc ?_ _));exact BK130.out) hb);have n2_:=Aside0.mk (below_step (by repeat (first|(with_reducible first|exact HB.out|apply below_alloc|apply pw_below_drewN|apply below_drew1|refine below_set ?_ GE130.out)|exact HB.out)) hb);have n3_:=Aside0.mk (hbox);have n4_:=Aside0.mk ((by rw [hg];exact (below_size (by repeat (first|(with_reducible first|exact HB.out|apply below_alloc|apply pw_below_drewN|apply below_drew1|refine below_set ?_ GE130.out)|exact HB.out))) : w.heap.size≤gb136));have n5_:=Aside0.mk ((by rw [hg];exact (below_size (by repeat (first|(with_reducible first|exact HB.out|apply below_alloc|apply pw_below_drewN|apply below_drew1|refine below_set ?_ GE130.out)|exact HB.out))) : w.heap.size≤gb136));have n6_:=Aside0.mk ((by rw [hg];exact Nat.ne_of_lt (blk_lt (g:=gb130) (o:=.cells #[.int .i64 a1_0,.string a1_1,.int .i64 a1_0,.int .i64 t134] 23 (0,0)) (by (with_reducible repeat (first|refine blk_drewN ?_ _|refine blk_drew ?_|refine blk_alloc ?_ _));exact BK130.out)) : gb130≠gb136));have n7_:=Aside0.mk ((by rw [hg];exact Nat.ne_of_gt (blk_lt (g:=gb130) (o:=.cells #[.int .i64 a1_0,.string a1_1,.int .i64 a1_0,.int .i64 t134] 23 (0,0)) (by (with_reducible repeat (first|refine blk_drewN ?_ _|refine blk_drew ?_|refine blk_alloc ?_ _));exact BK130.out)) : gb136≠gb130));clear HO_9;clear BK130;clear HB;have HO_9:=n0_;have BK130:=n1_;have HB:=n2_;have BK136:=n3_;have GW136:=n4_;have GE136:=n5_;have NB130_136:=n6_;have NB136_130:=n7_;clear n0_ n1_ n2_ n3_ n4_ n5_ n6_ n7_;clear hb hbox hg;have hnb84:=NB136_130.out;have hnc84:=NB130_136.out;have hcz85_0 : w83.cell? ⟨gb136,0,none⟩ = some (.int .i64 0):=(blk_cell BK136.out 0).trans rfl;have hcz85_1 : w83.cell? ⟨gb136,1,none⟩ = some (.string (⟨#[]⟩ : ByteArray)):=(blk_cell BK136.out 1).trans rfl;have hcz85_2 : w83.cell? ⟨gb136,2,none⟩ = some (.int .i64 0):=(blk_cell BK136.out 2).trans rfl;have hcz85_3 : w83.cell? ⟨gb136,3,none⟩ = some (.int .i64 0):=(blk_cell BK136.out 3).trans rfl;have hfz85_0:=blk_frozen BK136.out 0;have hfz85_1:=blk_frozen BK136.out 1;have hfz85_2:=blk_frozen BK136.out 2;have hfz85_3:=blk_frozen BK136.out 3))
              have n0_ : Aside0 (Kd.R k23 23 ((((w83.setCell ⟨gb136,0,none⟩ (.int .i64 ((rd_T23 l0 x54_1).f0))).setCell ⟨gb136,1,none⟩ (.string ((rd_T23 l0 x54_1).f1))).setCell ⟨gb136,2,none⟩ (.int .i64 ((rd_T23 l0 x54_1).f2))).setCell ⟨gb136,3,none⟩ (.int .i64 ((rd_T23 l0 x54_1).f3))) w.heap.size (fun k_=>k_≠gb130∧k_≠gb136) u9 x9_1):=⟨by (with_reducible repeat (first|apply Kd.R_alloc|apply Kd.R_drewN|apply Kd.R_drew));exact Kd.R_mono (Kd.R_far (p:=⟨gb136,3,none⟩) (Kd.R_far (p:=⟨gb136,2,none⟩) (Kd.R_far (p:=⟨gb136,1,none⟩) (Kd.R_far (p:=⟨gb136,0,none⟩) (Kd.R_mono HO_9.out (fun k_ hk=>(⟨hk,hk.2⟩ : _∧k_≠gb136))) (fun _ hk=>hk.2) (.int .i64 ((rd_T23 l0 x54_1).f0))) (fun _ hk=>hk.2) (.string ((rd_T23 l0 x54_1).f1))) (fun _ hk=>hk.2) (.int .i64 ((rd_T23 l0 x54_1).f2))) (fun _ hk=>hk.2) (.int .i64 ((rd_T23 l0 x54_1).f3))) (fun _ hk=>⟨hk.1.1,hk.1.2⟩)⟩;have n1_ : Aside0 (((((w83.setCell ⟨gb136,0,none⟩ (.int .i64 ((rd_T23 l0 x54_1).f0))).setCell ⟨gb136,1,none⟩ (.string ((rd_T23 l0 x54_1).f1))).setCell ⟨gb136,2,none⟩ (.int .i64 ((rd_T23 l0 x54_1).f2))).setCell ⟨gb136,3,none⟩ (.int .i64 ((rd_T23 l0 x54_1).f3))).heap[gb130]? = some (.cells #[.int .i64 a1_0,.string a1_1,.int .i64 a1_0,.int .i64 t134] 23 (0,0))):=⟨by (with_reducible repeat (first|refine blk_drewN ?_ _|refine blk_drew ?_|refine blk_alloc ?_ _));refine blk_far ?_ NB130_136.out _;(with_reducible repeat (first|refine blk_drewN ?_ _|refine blk_drew ?_|refine blk_alloc ?_ _));refine blk_far ?_ NB130_136.out _;(with_reducible repeat (first|refine blk_drewN ?_ _|refine blk_drew ?_|refine blk_alloc ?_ _));refine blk_far ?_ NB130_136.out _;(with_reducible repeat (first|refine blk_drewN ?_ _|refine blk_drew ?_|refine blk_alloc ?_ _));refine blk_far ?_ NB130_136.out _;(with_reducible repeat (first|refine blk_drewN ?_ _|refine blk_drew ?_|refine blk_alloc ?_ _));exact BK130.out⟩;have n2_ : Aside0 (((((w83.setCell ⟨gb136,0,none⟩ (.int .i64 ((rd_T23 l0 x54_1).f0))).setCell ⟨gb136,1,none⟩ (.string ((rd_T23 l0 x54_1).f1))).setCell ⟨gb136,2,none⟩ (.int .i64 ((rd_T23 l0 x54_1).f2))).setCell ⟨gb136,3,none⟩ (.int .i64 ((rd_T23 l0 x54_1).f3))).heap[gb136]? = some (.cells #[.int .i64 ((rd_T23 l0 x54_1).f0),.string ((rd_T23 l0 x54_1).f1),.int .i64 ((rd_T23 l0 x54_1).f2),.int .i64 ((rd_T23 l0 x54_1).f3)] 23 (0,0))):=⟨by (with_reducible repeat (first|refine blk_drewN ?_ _|refine blk_drew ?_|refine blk_alloc ?_ _));refine blk_put (cs:=#[.int .i64 ((rd_T23 l0 x54_1).f0),.string ((rd_T23 l0 x54_1).f1),.int .i64 ((rd_T23 l0 x54_1).f2),.int .i64 0]) ?_ 3 _ rfl;(with_reducible repeat (first|refine blk_drewN ?_ _|refine blk_drew ?_|refine blk_alloc ?_ _));refine blk_put (cs:=#[.int .i64 ((rd_T23 l0 x54_1).f0),.string ((rd_T23 l0 x54_1).f1),.int .i64 0,.int .i64 0]) ?_ 2 _ rfl;(with_reducible repeat (first|refine blk_drewN ?_ _|refine blk_drew ?_|refine blk_alloc ?_ _));refine blk_put (cs:=#[.int .i64 ((rd_T23 l0 x54_1).f0),.string (⟨#[]⟩ : ByteArray),.int .i64 0,.int .i64 0]) ?_ 1 _ rfl;(with_reducible repeat (first|refine blk_drewN ?_ _|refine blk_drew ?_|refine blk_alloc ?_ _));refine blk_put (cs:=#[.int .i64 0,.string (⟨#[]⟩ : ByteArray),.int .i64 0,.int .i64 0]) ?_ 0 _ rfl;(with_reducible repeat (first|refine blk_drewN ?_ _|refine blk_drew ?_|refine blk_alloc ?_ _));exact BK136.out⟩;have n3_ : Aside0 (Below w.heap.size w ((((w83.setCell ⟨gb136,0,none⟩ (.int .i64 ((rd_T23 l0 x54_1).f0))).setCell ⟨gb136,1,none⟩ (.string ((rd_T23 l0 x54_1).f1))).setCell ⟨gb136,2,none⟩ (.int .i64 ((rd_T23 l0 x54_1).f2))).setCell ⟨gb136,3,none⟩ (.int .i64 ((rd_T23 l0 x54_1).f3)))):=⟨by repeat (first|(with_reducible first|exact HB.out|apply below_alloc|apply pw_below_drewN|apply below_drew1|refine below_set ?_ GE130.out|refine below_set ?_ GE136.out)|exact HB.out)⟩;(try clear HO_9);(try clear BK130);(try clear BK136);(try clear HB);generalize ((((w83.setCell ⟨gb136,0,none⟩ (.int .i64 ((rd_T23 l0 x54_1).f0))).setCell ⟨gb136,1,none⟩ (.string ((rd_T23 l0 x54_1).f1))).setCell ⟨gb136,2,none⟩ (.int .i64 ((rd_T23 l0 x54_1).f2))).setCell ⟨gb136,3,none⟩ (.int .i64 ((rd_T23 l0 x54_1).f3))) = w86 at n0_ n1_ n2_ n3_ ⊢;have HO_9:=n0_;have BK130:=n1_;have BK136:=n2_;have HB:=n3_;clear n0_ n1_ n2_ n3_;have n0_:=Aside0.mk (Kd.R_drew HO_9.out);have n1_:=Aside0.mk (blk_drew BK130.out);have n2_:=Aside0.mk (blk_drew BK136.out);have n3_:=Aside0.mk (below_drew1 HB.out);clear HO_9;clear BK130;clear BK136;clear HB;have HO_9:=n0_;have BK130:=n1_;have BK136:=n2_;have HB:=n3_;clear n0_ n1_ n2_ n3_;refine start_ (n:=5) (S:=fun w'=>w'.cell? ⟨gb136,0,none⟩ = some (.int .i64 ((rd_T23 l0 x54_1).f0))∧w'.cell? ⟨gb136,1,none⟩ = some (.string ((rd_T23 l0 x54_1).f1))∧w'.cell? ⟨gb136,2,none⟩ = some (.int .i64 ((rd_T23 l0 x54_1).f2))∧w'.cell? ⟨gb136,3,none⟩ = some (.int .i64 ((rd_T23 l0 x54_1).f3))∧w'.cell? ⟨gb130,0,none⟩ = some (.int .i64 a1_0)∧w'.cell? ⟨gb130,1,none⟩ = some (.string a1_1)∧w'.cell? ⟨gb130,2,none⟩ = some (.int .i64 a1_0)∧w'.cell? ⟨gb130,3,none⟩ = some (.int .i64 t134)) (ds:=[]) (lb 5 0) (by kernel_rfl) rfl (by kernel_rfl) ⟨(blk_cell BK136.out 0).trans rfl,(blk_cell BK136.out 1).trans rfl,(blk_cell BK136.out 2).trans rfl,(blk_cell BK136.out 3).trans rfl,(blk_cell BK130.out 0).trans rfl,(blk_cell BK130.out 1).trans rfl,(blk_cell BK130.out 2).trans rfl,(blk_cell BK130.out 3).trans rfl⟩ (fun hHeld=>?_);generalize w86.drew = w87 at HO_9 BK130 BK136 HB hHeld ⊢;refine pure_ (i:=2) (N:=some 61) (v:=?_) (a':=?_) (lb 5 4) rfl rfl (by kernel_rfl) (fun _ _ _ h=>h) (Or.inl ⟨by rfl,?_⟩) ?_ ?_;rotate_left
              ·
               intro w';go_simp;with_reducible rfl
              rotate_left
              ·
               simp only [Act.put,sqa,sqb,sqc,i64_w,i32_w];rfl
              refine take_ (i:=0) (N:=some 59) (v:=?_) (a':=?_) (lb 5 5) rfl rfl (by kernel_rfl) (fun _ _ _ h=>h) (Or.inl ⟨by rfl,?_⟩) hHeld ?_ ?_;rotate_left
              ·
               rintro w' ⟨s0,s1,s2,s3,s4,s5,s6,s7⟩;go_simp;with_reducible rfl
              rotate_left
              ·
               simp only [Act.put,sqa,sqb,sqc,i64_w,i32_w];rfl
              refine take_ (i:=3) (N:=some 62) (v:=?_) (a':=?_) (lb 5 13) rfl rfl (by kernel_rfl) (fun _ _ _ h=>h) (Or.inl ⟨by rfl,?_⟩) hHeld ?_ ?_;rotate_left
              ·
               rintro w' ⟨s0,s1,s2,s3,s4,s5,s6,s7⟩;go_simp;with_reducible rfl
              rotate_left
              ·
               simp only [Act.put,sqa,sqb,sqc,i64_w,i32_w];rfl
              refine one_ (i:=1) (N:=some 60) (lb 5 15) rfl rfl (by kernel_rfl) (by decide) (fun K hK=>?_);refine goes_ Try.func28 (by kernel_rfl) rfl #[.agg #[.int .i64 ((rd_T23 l0 x54_1).f0),.string ((rd_T23 l0 x54_1).f1),.int .i64 ((rd_T23 l0 x54_1).f2),.int .i64 ((rd_T23 l0 x54_1).f3)]] (by rfl) rfl rfl (by (try simp only [List.map_toArray,List.map_cons,List.map_nil]);first|done|rfl|(simp only [List.length_drop,List.length_take];rfl)) ?_;with_reducible refine (overlap_end.calls ((rd_T23 l0 x54_1).f0) ((rd_T23 l0 x54_1).f1) ((rd_T23 l0 x54_1).f2) ((rd_T23 l0 x54_1).f3) t137 _ A33.out).mono ?_
              rintro e w88 ⟨rfl,hb⟩;refine ⟨_,rfl,?_⟩;have n0_:=Aside0.mk (Kd.R_below (by (with_reducible repeat (first|apply Kd.R_alloc|apply Kd.R_drewN|apply Kd.R_drew));exact HO_9.out) hb);have n1_:=Aside0.mk (blk_below (g:=gb130) (o:=.cells #[.int .i64 a1_0,.string a1_1,.int .i64 a1_0,.int .i64 t134] 23 (0,0)) (by (with_reducible repeat (first|refine blk_drewN ?_ _|refine blk_drew ?_|refine blk_alloc ?_ _));exact BK130.out) hb);have n2_:=Aside0.mk (blk_below (g:=gb136) (o:=.cells #[.int .i64 ((rd_T23 l0 x54_1).f0),.string ((rd_T23 l0 x54_1).f1),.int .i64 ((rd_T23 l0 x54_1).f2),.int .i64 ((rd_T23 l0 x54_1).f3)] 23 (0,0)) (by (with_reducible repeat (first|refine blk_drewN ?_ _|refine blk_drew ?_|refine blk_alloc ?_ _));exact BK136.out) hb);have n3_:=Aside0.mk (below_step (by repeat (first|(with_reducible first|exact HB.out|apply below_alloc|apply pw_below_drewN|apply below_drew1|refine below_set ?_ GE130.out|refine below_set ?_ GE136.out)|exact HB.out)) hb);clear HO_9;clear BK130;clear BK136;clear HB;have HO_9:=n0_;have BK130:=n1_;have BK136:=n2_;have HB:=n3_;clear n0_ n1_ n2_ n3_;(try clear hb);(try clear hb2);(try clear hk);(try clear hi);refine hK.out _ _ ⟨(blk_cell BK136.out 0).trans rfl,(blk_cell BK136.out 1).trans rfl,(blk_cell BK136.out 2).trans rfl,(blk_cell BK136.out 3).trans rfl,(blk_cell BK130.out 0).trans rfl,(blk_cell BK130.out 1).trans rfl,(blk_cell BK130.out 2).trans rfl,(blk_cell BK130.out 3).trans rfl⟩ (fun hHeld=>?_);clear hK K;refine norm_ (a':=?_) ?_ ?_;rotate_left
              ·
               show Act.put _ (some 60) _ = _
               simp only [Act.put,sqa,sqb,sqc,i64_w,i32_w];rfl
              refine pure_ (i:=4) (N:=some 63) (v:=?_) (a':=?_) (lb 5 31) rfl rfl (by kernel_rfl) (fun _ _ _ h=>h) (Or.inl ⟨by rfl,?_⟩) ?_ ?_;rotate_left
              ·
               intro w';go_simp;with_reducible rfl
              rotate_left
              ·
               simp only [Act.put,sqa,sqb,sqc,i64_w,i32_w];rfl
              refine done_ (by kernel_rfl) ?_;have hcz89_0 : w88.cell? ⟨gb136,0,none⟩ = some (.int .i64 ((rd_T23 l0 x54_1).f0)):=(blk_cell BK136.out 0).trans rfl;have hcz89_1 : w88.cell? ⟨gb136,1,none⟩ = some (.string ((rd_T23 l0 x54_1).f1)):=(blk_cell BK136.out 1).trans rfl;have hcz89_2 : w88.cell? ⟨gb136,2,none⟩ = some (.int .i64 ((rd_T23 l0 x54_1).f2)):=(blk_cell BK136.out 2).trans rfl;have hcz89_3 : w88.cell? ⟨gb136,3,none⟩ = some (.int .i64 ((rd_T23 l0 x54_1).f3)):=(blk_cell BK136.out 3).trans rfl;have hfz89_0:=blk_frozen BK136.out 0;have hfz89_1:=blk_frozen BK136.out 1;have hfz89_2:=blk_frozen BK136.out 2;have hfz89_3:=blk_frozen BK136.out 3;have hcz90_0 : w88.cell? ⟨gb130,0,none⟩ = some (.int .i64 a1_0):=(blk_cell BK130.out 0).trans rfl;have hcz90_1 : w88.cell? ⟨gb130,1,none⟩ = some (.string a1_1):=(blk_cell BK130.out 1).trans rfl;have hcz90_2 : w88.cell? ⟨gb130,2,none⟩ = some (.int .i64 a1_0):=(blk_cell BK130.out 2).trans rfl;have hcz90_3 : w88.cell? ⟨gb130,3,none⟩ = some (.int .i64 t134):=(blk_cell BK130.out 3).trans rfl;have hfz90_0:=blk_frozen BK130.out 0;have hfz90_1:=blk_frozen BK130.out 1;have hfz90_2:=blk_frozen BK130.out 2;have hfz90_3:=blk_frozen BK130.out 3;try go_wp2
              have n0_:=Aside0.mk (Kd.R_drew HO_9.out);have n1_:=Aside0.mk (blk_drew BK130.out);have n2_:=Aside0.mk (blk_drew BK136.out);have n3_:=Aside0.mk (below_drew1 HB.out);clear HO_9;clear BK130;clear BK136;clear HB;have HO_9:=n0_;have BK130:=n1_;have BK136:=n2_;have HB:=n3_;clear n0_ n1_ n2_ n3_;refine start_ (n:=12) (S:=fun w'=>w'.cell? ⟨gb136,0,none⟩ = some (.int .i64 ((rd_T23 l0 x54_1).f0))∧w'.cell? ⟨gb136,1,none⟩ = some (.string ((rd_T23 l0 x54_1).f1))∧w'.cell? ⟨gb136,2,none⟩ = some (.int .i64 ((rd_T23 l0 x54_1).f2))∧w'.cell? ⟨gb136,3,none⟩ = some (.int .i64 ((rd_T23 l0 x54_1).f3))∧w'.cell? ⟨gb130,0,none⟩ = some (.int .i64 a1_0)∧w'.cell? ⟨gb130,1,none⟩ = some (.string a1_1)∧w'.cell? ⟨gb130,2,none⟩ = some (.int .i64 a1_0)∧w'.cell? ⟨gb130,3,none⟩ = some (.int .i64 t134)) (ds:=[]) (lb 12 0) (by kernel_rfl) rfl (by kernel_rfl) ⟨(blk_cell BK136.out 0).trans rfl,(blk_cell BK136.out 1).trans rfl,(blk_cell BK136.out 2).trans rfl,(blk_cell BK136.out 3).trans rfl,(blk_cell BK130.out 0).trans rfl,(blk_cell BK130.out 1).trans rfl,(blk_cell BK130.out 2).trans rfl,(blk_cell BK130.out 3).trans rfl⟩ (fun hHeld=>?_);refine with_tabW overlap_Insert.tab23 overlap_Insert.bits23 (fun HT_ HW_=>?_)
              generalize w88.drew = w91 at HO_9 BK130 BK136 HB hHeld ⊢;refine pure_ (i:=0) (N:=some 97) (v:=?_) (a':=?_) (lb 12 1) rfl rfl (any_of HT_.out (by kernel_rfl)) (fun _ _ _ h=>h) (Or.inl ⟨by rfl,?_⟩) ?_ ?_;rotate_left
              ·
               intro w';go_simp;with_reducible rfl
              rotate_left
              ·
               simp only [Act.put,sqa,sqb,sqc,i64_w,i32_w];rfl
              refine pure_ (i:=2) (N:=some 99) (v:=?_) (a':=?_) (lb 12 5) rfl rfl (any_of HT_.out (by kernel_rfl)) (fun _ _ _ h=>h) (Or.inl ⟨by rfl,?_⟩) ?_ ?_;rotate_left
              ·
               intro w';go_simp;with_reducible rfl
              rotate_left
              ·
               simp only [Act.put,sqa,sqb,sqc,i64_w,i32_w];rfl
              refine pure_ (i:=7) (N:=some 104) (v:=?_) (a':=?_) (lb 12 133) rfl rfl (any_of HT_.out (by kernel_rfl)) (fun _ _ _ h=>h) (Or.inl ⟨by rfl,?_⟩) ?_ ?_;rotate_left
              ·
               intro w';go_simp;with_reducible rfl
              rotate_left
              ·
               simp only [Act.put,sqa,sqb,sqc,i64_w,i32_w];rfl
              refine take_ (i:=1) (N:=some 98) (v:=?_) (a':=?_) (lb 12 135) rfl rfl (take_ofW HT_.out HW_.out (by kernel_rfl)) (fun _ _ _ h=>h) (Or.inl ⟨by rfl,?_⟩) hHeld ?_ ?_;rotate_left
              ·
               rintro w' ⟨s0,s1,s2,s3,s4,s5,s6,s7⟩;go_simp;with_reducible rfl
              rotate_left
              ·
               simp only [Act.put,sqa,sqb,sqc,i64_w,i32_w];rfl
              refine take_ (i:=3) (N:=some 100) (v:=?_) (a':=?_) (lb 12 143) rfl rfl (take_ofW HT_.out HW_.out (by kernel_rfl)) (fun _ _ _ h=>h) (Or.inl ⟨by rfl,?_⟩) hHeld ?_ ?_;rotate_left
              ·
               rintro w' ⟨s0,s1,s2,s3,s4,s5,s6,s7⟩;go_simp;with_reducible rfl
              rotate_left
              ·
               simp only [Act.put,sqa,sqb,sqc,i64_w,i32_w];rfl
              refine pure_ (i:=4) (N:=some 101) (v:=?_) (a':=?_) (lb 12 159) rfl rfl (any_of HT_.out (by kernel_rfl)) (fun _ _ _ h=>h) (Or.inl ⟨by rfl,?_⟩) ?_ ?_;rotate_left
              ·
               intro w';go_simp;with_reducible rfl
              rotate_left
              ·
               simp only [Act.put,sqa,sqb,sqc,i64_w,i32_w];rfl
              refine take_ (i:=5) (N:=some 102) (v:=?_) (a':=?_) (lb 12 191) rfl rfl (take_ofW HT_.out HW_.out (by kernel_rfl)) (fun _ _ _ h=>h) (Or.inl ⟨by rfl,?_⟩) hHeld ?_ ?_;rotate_left
              ·
               rintro w' ⟨s0,s1,s2,s3,s4,s5,s6,s7⟩;go_simp;with_reducible rfl
              rotate_left
              ·
               simp only [Act.put,sqa,sqb,sqc,i64_w,i32_w];rfl
              refine take_ (i:=8) (N:=some 105) (v:=?_) (a':=?_) (lb 12 447) rfl rfl (take_ofW HT_.out HW_.out (by kernel_rfl)) (fun _ _ _ h=>h) (Or.inl ⟨by rfl,?_⟩) hHeld ?_ ?_;rotate_left
              ·
               rintro w' ⟨s0,s1,s2,s3,s4,s5,s6,s7⟩;go_simp;with_reducible rfl
              rotate_left
              ·
               simp only [Act.put,sqa,sqb,sqc,i64_w,i32_w];rfl
              refine one_ (i:=6) (N:=some 103) (lb 12 511) rfl rfl (one_of HT_.out (by kernel_rfl)) (by decide) (fun K hK=>?_);refine goes_ Try.func28 (by kernel_rfl) rfl #[.agg #[.int .i64 ((rd_T23 l0 x54_1).f0),.string ((rd_T23 l0 x54_1).f1),.int .i64 ((rd_T23 l0 x54_1).f2),.int .i64 ((rd_T23 l0 x54_1).f3)]] (by rfl) rfl rfl (by (try simp only [List.map_toArray,List.map_cons,List.map_nil]);first|done|rfl|(simp only [List.length_drop,List.length_take];rfl)) ?_;with_reducible refine (overlap_end.calls ((rd_T23 l0 x54_1).f0) ((rd_T23 l0 x54_1).f1) ((rd_T23 l0 x54_1).f2) ((rd_T23 l0 x54_1).f3) t157 _ A80.out).mono ?_
              rintro e w92 ⟨rfl,hb⟩;refine ⟨_,rfl,?_⟩;have n0_:=Aside0.mk (Kd.R_below (by (with_reducible repeat (first|apply Kd.R_alloc|apply Kd.R_drewN|apply Kd.R_drew));exact HO_9.out) hb);have n1_:=Aside0.mk (blk_below (g:=gb130) (o:=.cells #[.int .i64 a1_0,.string a1_1,.int .i64 a1_0,.int .i64 t134] 23 (0,0)) (by (with_reducible repeat (first|refine blk_drewN ?_ _|refine blk_drew ?_|refine blk_alloc ?_ _));exact BK130.out) hb);have n2_:=Aside0.mk (blk_below (g:=gb136) (o:=.cells #[.int .i64 ((rd_T23 l0 x54_1).f0),.string ((rd_T23 l0 x54_1).f1),.int .i64 ((rd_T23 l0 x54_1).f2),.int .i64 ((rd_T23 l0 x54_1).f3)] 23 (0,0)) (by (with_reducible repeat (first|refine blk_drewN ?_ _|refine blk_drew ?_|refine blk_alloc ?_ _));exact BK136.out) hb);have n3_:=Aside0.mk (below_step (by repeat (first|(with_reducible first|exact HB.out|apply below_alloc|apply pw_below_drewN|apply below_drew1|refine below_set ?_ GE130.out|refine below_set ?_ GE136.out)|exact HB.out)) hb);clear HO_9;clear BK130;clear BK136;clear HB;have HO_9:=n0_;have BK130:=n1_;have BK136:=n2_;have HB:=n3_;clear n0_ n1_ n2_ n3_;(try clear hb);(try clear hb2);(try clear hk);(try clear hi);refine hK.out _ _ ⟨(blk_cell BK136.out 0).trans rfl,(blk_cell BK136.out 1).trans rfl,(blk_cell BK136.out 2).trans rfl,(blk_cell BK136.out 3).trans rfl,(blk_cell BK130.out 0).trans rfl,(blk_cell BK130.out 1).trans rfl,(blk_cell BK130.out 2).trans rfl,(blk_cell BK130.out 3).trans rfl⟩ (fun hHeld=>?_);clear hK K;refine norm_ (a':=?_) ?_ ?_;rotate_left
              ·
               show Act.put _ (some 103) _ = _
               simp only [Act.put,sqa,sqb,sqc,i64_w,i32_w];rfl
              refine pure_ (i:=9) (N:=some 106) (v:=?_) (a':=?_) (lb 12 1023) rfl rfl (any_of HT_.out (by kernel_rfl)) (fun _ _ _ h=>h) (Or.inl ⟨by rfl,?_⟩) ?_ ?_;rotate_left
              ·
               intro w';go_simp;with_reducible rfl
              rotate_left
              ·
               simp only [Act.put,sqa,sqb,sqc,i64_w,i32_w];rfl
              refine pure_ (i:=10) (N:=some 17) (v:=?_) (a':=?_) (lb 12 2047) rfl rfl (any_of HT_.out (by kernel_rfl)) (fun _ _ _ h=>h) (Or.inl ⟨by rfl,?_⟩) ?_ ?_;rotate_left
              ·
               intro w';go_simp;with_reducible rfl
              rotate_left
              ·
               simp only [Act.put,sqa,sqb,sqc,i64_w,i32_w];rfl
              refine pure_ (i:=11) (N:=some 18) (v:=?_) (a':=?_) (lb 12 4095) rfl rfl (any_of HT_.out (by kernel_rfl)) (fun _ _ _ h=>h) (Or.inl ⟨by rfl,?_⟩) ?_ ?_;rotate_left
              ·
               intro w';go_simp;with_reducible rfl
              rotate_left
              ·
               simp only [Act.put,sqa,sqb,sqc,i64_w,i32_w];rfl
              refine done_ (done_of HT_.out (by kernel_rfl)) ?_;have hcz93_0 : w92.cell? ⟨gb136,0,none⟩ = some (.int .i64 ((rd_T23 l0 x54_1).f0)):=(blk_cell BK136.out 0).trans rfl;have hcz93_1 : w92.cell? ⟨gb136,1,none⟩ = some (.string ((rd_T23 l0 x54_1).f1)):=(blk_cell BK136.out 1).trans rfl;have hcz93_2 : w92.cell? ⟨gb136,2,none⟩ = some (.int .i64 ((rd_T23 l0 x54_1).f2)):=(blk_cell BK136.out 2).trans rfl;have hcz93_3 : w92.cell? ⟨gb136,3,none⟩ = some (.int .i64 ((rd_T23 l0 x54_1).f3)):=(blk_cell BK136.out 3).trans rfl;have hfz93_0:=blk_frozen BK136.out 0;have hfz93_1:=blk_frozen BK136.out 1;have hfz93_2:=blk_frozen BK136.out 2;have hfz93_3:=blk_frozen BK136.out 3;go_upto_if 110 with (fail)
              (try (go_step3;go_upto_if 110 with (fail)));go_cut [9] (fun v9 wc=>∃ (kq : Nat) (x9_81 : List (S23)),Aside0 (overlap_Insert.j3 kq l0 a2 x9_81 x10_1 x11_1 x12_1 ji79 ji81 l0 (l0.length : Int) x54_1 a1_0 a1_1 a1_0 t134 ((rd_T23 l0 x54_1).f0) ((rd_T23 l0 x54_1).f1) ((rd_T23 l0 x54_1).f2) ((rd_T23 l0 x54_1).f3) = some (r1,r2,r3))∧Aside0 (kq≤k1)∧Aside0 (Kd.R k23 23 wc w.heap.size (fun k_=>k_≠gb130∧k_≠gb136) v9 x9_81)∧Aside0 (wc.heap[gb130]? = some (.cells #[.int .i64 a1_0,.string a1_1,.int .i64 a1_0,.int .i64 t134] 23 (0,0)))∧Aside0 (wc.heap[gb136]? = some (.cells #[.int .i64 ((rd_T23 l0 x54_1).f0),.string ((rd_T23 l0 x54_1).f1),.int .i64 ((rd_T23 l0 x54_1).f2),.int .i64 ((rd_T23 l0 x54_1).f3)] 23 (0,0)))∧Aside0 (Below w.heap.size w wc))
              case first=>
               have H:=HC82.out;clear HC82;by_cases c94 : ((rd_T23 l0 x54_1).f0) < (ji79)
               ·
                rw [if_pos c94] at H;have c94b0 : decide (((rd_T23 l0 x54_1).f0) < (ji79)) = true:=decide_eq_true c94;clear c94;(first|rw [c94b0]|(simp only [i64_w,i32_w];rw [c94b0])|skip)
                replace H:=Option.bind_eq_some_iff.mp H;obtain ⟨⟨t158,t159,t160,t161⟩,A950,H⟩:=H;replace H : ((overlap_join.f x9_1 t158 t159 t160 t161).bind fun t162=>(overlap_Insert.j3 k1 l0 a2 t162 x10_1 x11_1 x12_1 ji79 ji81 l0 (l0.length : Int) x54_1 a1_0 a1_1 a1_0 t134 ((rd_T23 l0 x54_1).f0) ((rd_T23 l0 x54_1).f1) ((rd_T23 l0 x54_1).f2) ((rd_T23 l0 x54_1).f3))) = some (r1,r2,r3):=H;have A95:=Aside0.mk A950;clear A950;replace H:=Option.bind_eq_some_iff.mp H;obtain ⟨t162,A960,H⟩:=H;replace H : (overlap_Insert.j3 k1 l0 a2 t162 x10_1 x11_1 x12_1 ji79 ji81 l0 (l0.length : Int) x54_1 a1_0 a1_1 a1_0 t134 ((rd_T23 l0 x54_1).f0) ((rd_T23 l0 x54_1).f1) ((rd_T23 l0 x54_1).f2) ((rd_T23 l0 x54_1).f3)) = some (r1,r2,r3):=H;have A96:=Aside0.mk A960;clear A960;have H':=Aside0.mk H;clear H;have hnb97:=NB136_130.out;have hnc97:=NB130_136.out;have hcz98_0 : w92.cell? ⟨gb136,0,none⟩ = some (.int .i64 ((rd_T23 l0 x54_1).f0)):=(blk_cell BK136.out 0).trans rfl;have hcz98_1 : w92.cell? ⟨gb136,1,none⟩ = some (.string ((rd_T23 l0 x54_1).f1)):=(blk_cell BK136.out 1).trans rfl;have hcz98_2 : w92.cell? ⟨gb136,2,none⟩ = some (.int .i64 ((rd_T23 l0 x54_1).f2)):=(blk_cell BK136.out 2).trans rfl;have hcz98_3 : w92.cell? ⟨gb136,3,none⟩ = some (.int .i64 ((rd_T23 l0 x54_1).f3)):=(blk_cell BK136.out 3).trans rfl;have hfz98_0:=blk_frozen BK136.out 0;have hfz98_1:=blk_frozen BK136.out 1;have hfz98_2:=blk_frozen BK136.out 2;have hfz98_3:=blk_frozen BK136.out 3;go_wp2_with (first|((with_reducible refine gate_callee (f:=30) rfl ?_);refine goesL_ (some 116) rfl rfl Try.func30 (by kernel_rfl) rfl #[.agg #[.int .i64 ((rd_T23 l0 x54_1).f0),.string ((rd_T23 l0 x54_1).f1),.int .i64 ((rd_T23 l0 x54_1).f2),.int .i64 ((rd_T23 l0 x54_1).f3)],.int .i64 ((rd_T23 l0 x54_1).f0),.int .i64 ji79] rfl (by (try simp only [List.map_toArray,List.map_cons,List.map_nil]);first|done|(simp only [hji79];rfl)|rfl|(simp only [List.length_drop,List.length_take];rfl)) ?_;(with_reducible refine (overlap_part.calls ((rd_T23 l0 x54_1).f0) ((rd_T23 l0 x54_1).f1) ((rd_T23 l0 x54_1).f2) ((rd_T23 l0 x54_1).f3) ((rd_T23 l0 x54_1).f0) ji79 t158 t159 t160 t161 _ A95.out).mono ?_);rintro e w99 ⟨rfl,hb⟩;refine ⟨_,rfl,?_⟩;have n0_:=Aside0.mk (Kd.R_below (by (with_reducible repeat (first|apply Kd.R_alloc|apply Kd.R_drewN|apply Kd.R_drew));exact HO_9.out) hb);have n1_:=Aside0.mk (blk_below (g:=gb130) (o:=.cells #[.int .i64 a1_0,.string a1_1,.int .i64 a1_0,.int .i64 t134] 23 (0,0)) (by (with_reducible repeat (first|refine blk_drewN ?_ _|refine blk_drew ?_|refine blk_alloc ?_ _));exact BK130.out) hb);have n2_:=Aside0.mk (blk_below (g:=gb136) (o:=.cells #[.int .i64 ((rd_T23 l0 x54_1).f0),.string ((rd_T23 l0 x54_1).f1),.int .i64 ((rd_T23 l0 x54_1).f2),.int .i64 ((rd_T23 l0 x54_1).f3)] 23 (0,0)) (by (with_reducible repeat (first|refine blk_drewN ?_ _|refine blk_drew ?_|refine blk_alloc ?_ _));exact BK136.out) hb);have n3_:=Aside0.mk (below_step (by repeat (first|(with_reducible first|exact HB.out|apply below_alloc|apply pw_below_drewN|apply below_drew1|refine below_set ?_ GE130.out|refine below_set ?_ GE136.out)|exact HB.out)) hb);clear HO_9;clear BK130;clear BK136;clear HB;have HO_9:=n0_;have BK130:=n1_;have BK136:=n2_;have HB:=n3_;clear n0_ n1_ n2_ n3_;(try clear hb);(try clear hb2);(try clear hk);(try clear hi);obtain ⟨Ao100,co100,eo100⟩:=Kd.R_slice HO_9.out;subst eo100)|((with_reducible refine gate_callee (f:=29) rfl ?_);refine goesL_ (some 117) rfl rfl Try.func29 (by kernel_rfl) rfl #[.slice Ao100 x9_1.length co100,.agg #[.int .i64 t158,.string t159,.int .i64 t160,.int .i64 t161]] rfl (by (try simp only [List.map_toArray,List.map_cons,List.map_nil]);first|done|rfl|(simp only [List.length_drop,List.length_take];rfl)) ?_;(with_reducible refine (overlap_join.calls (fun k_=>some k_ = (.slice Ao100 x9_1.length co100 : Value).ownBlock) (.slice Ao100 x9_1.length co100) x9_1 t158 t159 t160 t161 t162 w _ ?side1 ?side2 A96.out).mono ?_);(case side1=>repeat (first|(with_reducible first|exact HB.out|apply below_alloc|apply pw_below_drewN|apply below_drew1|refine below_set ?_ GE130.out|refine below_set ?_ GE136.out)|exact HB.out));(case side2=>exact Kd.R_tight rfl HO_9.out);rintro e w101 ⟨v163,rfl,ho0,hb,hkp⟩;refine ⟨_,rfl,?_⟩;have n0_:=Aside0.mk (blk_kept (by (with_reducible repeat (first|refine blk_drewN ?_ _|refine blk_drew ?_|refine blk_alloc ?_ _));exact BK130.out) hkp (fun hs_=>(fun e_=>(Kd.R_away HO_9.out (fun _ hk=>hk.1)) e_) hs_));have n1_:=Aside0.mk (blk_kept (by (with_reducible repeat (first|refine blk_drewN ?_ _|refine blk_drew ?_|refine blk_alloc ?_ _));exact BK136.out) hkp (fun hs_=>(fun e_=>(Kd.R_away HO_9.out (fun _ hk=>hk.2)) e_) hs_));have n2_:=Aside0.mk (Kd.R_mono (ok':=fun k_=>k_≠gb130∧k_≠gb136) ho0 (fun k_ hk_=>⟨Or.elim hk_ (fun hs_=>fun e_=>(Kd.R_away HO_9.out (fun _ hk=>hk.1)) (by rw [← e_];exact hs_)) (fun hn_=>(Kd.freshB (g:=gb130) (o:=.cells #[.int .i64 a1_0,.string a1_1,.int .i64 a1_0,.int .i64 t134] 23 (0,0)) (by (with_reducible repeat (first|refine blk_drewN ?_ _|refine blk_drew ?_|refine blk_alloc ?_ _));exact BK130.out) k_ hn_)),Or.elim hk_ (fun hs_=>fun e_=>(Kd.R_away HO_9.out (fun _ hk=>hk.2)) (by rw [← e_];exact hs_)) (fun hn_=>(Kd.freshB (g:=gb136) (o:=.cells #[.int .i64 ((rd_T23 l0 x54_1).f0),.string ((rd_T23 l0 x54_1).f1),.int .i64 ((rd_T23 l0 x54_1).f2),.int .i64 ((rd_T23 l0 x54_1).f3)] 23 (0,0)) (by (with_reducible repeat (first|refine blk_drewN ?_ _|refine blk_drew ?_|refine blk_alloc ?_ _));exact BK136.out) k_ hn_))⟩));have n3_:=Aside0.mk (hb);clear BK130;clear BK136;clear HB;clear HO_9;have BK130:=n0_;have BK136:=n1_;have HO164:=n2_;have HB:=n3_;clear n0_ n1_ n2_ n3_;(try clear hb);(try clear hkp);(try clear ho0)));go_meet
                case rel=>exact ⟨_,(t162),H',⟨by have:=HK1.out;first|omega|exact Nat.le_refl _⟩,⟨by (with_reducible repeat (first|apply Kd.R_alloc|apply Kd.R_drewN|apply Kd.R_drew));exact HO164.out⟩,⟨by (with_reducible repeat (first|refine blk_drewN ?_ _|refine blk_drew ?_|refine blk_alloc ?_ _));exact BK130.out⟩,⟨by (with_reducible repeat (first|refine blk_drewN ?_ _|refine blk_drew ?_|refine blk_alloc ?_ _));exact BK136.out⟩,⟨by repeat (first|(with_reducible first|exact HB.out|apply below_alloc|apply pw_below_drewN|apply below_drew1|refine below_set ?_ GE130.out|refine below_set ?_ GE136.out)|exact HB.out)⟩⟩
               ·
                rw [if_neg c94] at H;have c94b0 : decide (((rd_T23 l0 x54_1).f0) < (ji79)) = false:=decide_eq_false c94;clear c94;(first|rw [c94b0]|(simp only [i64_w,i32_w];rw [c94b0])|skip)
                have H':=Aside0.mk H;clear H;go_wp2;go_meet
                case rel=>exact ⟨_,(x9_1),H',⟨by have:=HK1.out;first|omega|exact Nat.le_refl _⟩,⟨by (with_reducible repeat (first|apply Kd.R_alloc|apply Kd.R_drewN|apply Kd.R_drew));exact HO_9.out⟩,⟨by (with_reducible repeat (first|refine blk_drewN ?_ _|refine blk_drew ?_|refine blk_alloc ?_ _));exact BK130.out⟩,⟨by (with_reducible repeat (first|refine blk_drewN ?_ _|refine blk_drew ?_|refine blk_alloc ?_ _));exact BK136.out⟩,⟨by repeat (first|(with_reducible first|exact HB.out|apply below_alloc|apply pw_below_drewN|apply below_drew1|refine below_set ?_ GE130.out|refine below_set ?_ GE136.out)|exact HB.out)⟩⟩
              case rest=>
               rename_i z0_ z1_ z2_ z3_ z4_ z5_ z6_ z7_ z8_ z9_ z10_ z11_ z12_ z13_ z14_ z15_ z16_ z17_ z18_ z19_ z20_ z21_ z22_ z23_ z24_ z25_ z26_ z27_ z28_ z29_ z30_ z31_ z32_ z33_ z34_ z35_
                z36_ z37_ z38_ z39_ z40_ z41_ z42_ z43_ z44_ z45_ z46_ z47_ z48_ z49_ z50_ z51_ z52_ z53_ z54_ z55_ z56_ z57_ z58_ z59_ z60_ z61_ z62_ z63_ z64_ z65_ z66_ z67_ z68_ z69_ z70_ z71_
                z72_ z73_ z74_ z75_ z76_ z77_ z78_ z79_ z80_ z81_ z82_ z83_ z84_ z85_ z86_ z87_ z88_ z89_ z90_ z91_ z92_ z93_ z94_ z95_ z96_ z97_ z98_ z99_ z100_ z101_ z102_ z103_ z104_ z105_
                z106_ z107_ z108_ z109_ z110_ z111_ z112_ z113_ z114_ z115_ z116_ z117_ z118_ z119_ z120_ z121_ z122_ z123_ z124_ z125_ z126_ z127_ z128_ z129_ z130_ z131_ z132_ z133_ z134_ z135_
                z136_
               revert k c0 l0 a1_0 a1_1 a1_2 a1_3 a2 r1 r2 r3 w hu23 HC0 t134 A21 z0_ gb130 w23 GW130 GE130 z1_ z2_ w25 z3_ w26 z4_ z5_ z6_ hs27 hfs27 hs28 hfs28 z7_ z8_ z9_ z10_ z11_ wr z12_ u13
                u14 u16 u17 u18 u19 u20 z13_ z14_ z15_ z16_ z17_ z18_ z19_ z20_ z21_ z22_ z23_ z24_ z25_ z26_ z27_ z28_ z29_ z30_ z31_ z32_ z33_ z34_ z35_ z36_ z37_ z38_ z39_ z40_ z41_ z42_ z43_
                z44_ u87 u88 u89 z45_ z46_ z47_ z48_ z49_ z50_ z51_ z52_ z53_ z54_ z55_ z56_ z57_ z58_ z59_ z60_ z61_ z62_ z63_ z64_ z65_ z66_ z67_ z68_ z69_ z70_ z71_ z72_ z73_ z74_ z75_ z76_
                z77_ z78_ z79_ z80_ z81_ z82_ z83_ z84_ z85_ z86_ z87_ z88_ z89_ z90_ z91_ z92_ z93_ z94_ z95_ z96_ z97_ z98_ z99_ z100_ z101_ z102_ z103_ z104_ z105_ z106_ z107_ z108_ z109_
                z110_ z111_ z112_ z113_ z114_ z115_ z116_ z117_ z118_ z119_ z120_ z121_ z122_ z123_ z124_ z125_ z126_ x9_1 x10_1 x11_1 x12_1 x54_1 k1 z127_ HK1 c30b0 c31b0 c32b0 t137 A33 c34b0
                c45b0 ji79 hji79 hji79_ t157 A80 ji81 hji81 hji81_ HC82 ad135 HR0 z128_ z129_ hx135_0 hx135_1 hx135_2 hx135_3 p135 q135 z130_ z131_ gb136 w83 GW136 GE136 NB130_136 NB136_130 hnb84
                hnc84 hcz85_0 hcz85_1 hcz85_2 hcz85_3 hfz85_0 hfz85_1 hfz85_2 hfz85_3 w86 w87 z132_ w88 z133_ hcz89_0 hcz89_1 hcz89_2 hcz89_3 hfz89_0 hfz89_1 hfz89_2 hfz89_3 hcz90_0 hcz90_1
                hcz90_2 hcz90_3 hfz90_0 hfz90_1 hfz90_2 hfz90_3 HT_ HW_ w91 z134_ w92 HO_9 BK130 BK136 HB hHeld hcz93_0 hcz93_1 hcz93_2 hcz93_3 hfz93_0 hfz93_1 hfz93_2 hfz93_3 z135_ z136_ wc u9
                u55 u56 u57 u58 u59 u60 u61 u62 u63 u64 u65 u66 u67 u68 u69 u70 u71 u72 u73 u74 u75 u76 u77 u78 u79 u80 u81 u82 u83 u84 u85 u86 u90 u91 u92 u93 u94 u95 u96 u97 u98 u99 u100 u101
                u102 u103 u104 u105 u106 u107 u108 u109 u110 u111 u112 u113 u114 u115 u116 u117 u118 u119 u120 u121 u122 u123 u124 u125 u126 u127 u128 u129 u130 u131 u132 u133 u134 u135 u136 u137
                u138 u139 u140 u141 u142 u143 u144 u145 u146 u147 u148 u149 u150 u151 u152 u153 u154 u155 u156 u157 u158 u159 u160 u161 u162 u163 u164 u165 u166 u167 u168 u169 hcut
               exact Hrest1_
           ·
            rw [if_neg c32] at H;exact absurd H (by simp)
          ·
           rw [if_neg c31] at H;exact absurd H (by simp)
         ·
          rw [if_neg c30] at H;have c30b0 : decide (x54_1 < (l0.length : Int)) = false:=decide_eq_false c30;clear c30;(first|rw [c30b0]|(simp only [i64_w,i32_w];rw [c30b0])|skip)
          have H':=Aside0.mk H;clear H;go_wp2;go_meet
          case rel=>exact ⟨_,(x9_1),(x10_1),(x11_1),(x12_1),(by first|rfl|(simp;done)|(simp [*];done)),(by first|rfl|(simp;done)|(simp [*];done)),(by first|rfl|(simp;done)|(simp [*];done)),H',⟨by have:=HK1.out;first|omega|exact Nat.le_refl _⟩,⟨by (with_reducible repeat (first|apply Kd.R_alloc|apply Kd.R_drewN|apply Kd.R_drew));exact HO_9.out⟩,⟨by (with_reducible repeat (first|refine blk_drewN ?_ _|refine blk_drew ?_|refine blk_alloc ?_ _));exact BK130.out⟩,⟨by repeat (first|(with_reducible first|exact HB.out|apply below_alloc|apply pw_below_drewN|apply below_drew1|refine below_set ?_ GE130.out)|exact HB.out)⟩⟩
      case rest=>
       rename_i z0_ z1_ z2_ z3_
       revert k A0 c0 l0 a1_0 a1_1 a1_2 a1_3 a2 r1 r2 r3 w hu23 HR0 HC0 c4 c4b0 c4b1 c9b0 c12b0 c15b0 c18b0 t134 A21 HC22 z0_ gb130 w23 GW130 GE130 hcz24_0 hcz24_1 hcz24_2 hcz24_3 hfz24_0
        hfz24_1 hfz24_2 hfz24_3 HT_ HW_ w25 z1_ w26 BK130 HB hHeld hs27 hfs27 hs28 hfs28 hcz29_0 hcz29_1 hcz29_2 hcz29_3 hfz29_0 hfz29_1 hfz29_2 hfz29_3 z2_ z3_ wc u9 u10 u11 u12 u13 u14
        u16 u17 u18 u19 u20 u54 u55 u56 u57 u58 u59 u60 u61 u62 u63 u64 u65 u66 u67 u68 u69 u70 u71 u72 u73 u74 u75 u76 u77 u78 u79 u80 u81 u82 u83 u84 u85 u86 u87 u88 u89 u90 u91 u92 u93
        u94 u95 u96 u97 u98 u99 u100 u101 u102 u103 u104 u105 u106 u107 u108 u109 u110 u111 u112 u113 u114 u115 u116 u117 u118 u119 u120 u121 u122 u123 u124 u125 u126 u127 u128 u129 u130
        u131 u132 u133 u134 u135 u136 u137 u138 u139 u140 u141 u142 u143 u144 u145 u146 u147 u148 u149 u150 u151 u152 u153 u154 u155 u156 u157 u158 u159 u160 u161 u162 u163 u164 u165 u166
        u167 u168 u169 hcut
       exact Hrest2_
⟩
end Go.Proofs.Ytjdjgabahkcjeaa.P

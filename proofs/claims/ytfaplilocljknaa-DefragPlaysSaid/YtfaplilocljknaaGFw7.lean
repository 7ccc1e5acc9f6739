import Derived.Shelf.Strings.Builder1
import Derived.Test.YtfaplilocljknaaGFw6
set_option linter.all false
namespace Go.Fw
open Go.Shelf Go.RowKit Go.Proofs
structure Gr (w w':World) (b:Nat) (row:Option Nat):Prop where
  os:w'.os = w.os
  tape:w'.tape = w.tape
  output:w'.output = w.output
  size:w.heap.size≤w'.heap.size
  block:∀ k,k < w.heap.size→k≠b→some k≠row→w'.heap[k]? = w.heap[k]?
theorem Gr.refl (w:World) (b:Nat) (row:Option Nat):Gr w w b row:=⟨rfl,rfl,rfl,Nat.le_refl _,fun _ _ _ _=>rfl⟩
theorem Gr.trans {w w1 w2:World} {b:Nat} {row row':Option Nat} (h:Gr w w1 b row) (k:Gr w1 w2 b row') (hr:∀ j,row' = some j→row = some j∨w.heap.size≤j):Gr w w2 b row:=
  ⟨k.os.trans h.os,k.tape.trans h.tape,k.output.trans h.output,Nat.le_trans h.size k.size,fun j hj hb hn=>by
    rw [k.block j (Nat.lt_of_lt_of_le hj h.size) hb (fun e=>by
      rcases hr j e.symm with h1|h1
      · exact hn h1.symm
      · omega),h.block j hj hb hn]⟩
theorem Gr.setCell (w:World) (b k:Nat) (u:Value) (row:Option Nat):Gr w (w.setCell ⟨b,k,none⟩ u) b row:=
  ⟨rfl,rfl,rfl,by simp [World.setCell],fun j _ hb _=>by simp [World.setCell,Array.getElem?_modify,Ne.symm hb]⟩
theorem Gr.alloc (w:World) (b:Nat) (o:Obj) (row:Option Nat):Gr w (w.alloc o) b row:=
  ⟨rfl,rfl,rfl,by simp,fun j hj _ _=>Lib.alloc_old w o j hj⟩
theorem Gr.drew (w:World) (b:Nat) (row:Option Nat):Gr w w.drew b row:=⟨rfl,rfl,rfl,Nat.le_refl _,fun _ _ _ _=>rfl⟩
def BdAt (T e:TypeId) (b:Nat) (p:Value) (bs:List Value) (v:Value) (w:World):Prop:=
  w.heap[b]? = some (.cells #[p,v] T (0,0))∧w.ownsRow 0 e 1 v bs.length bs∧v.ownBlock≠some b
abbrev selfP (b:Nat):Value:=.pointer (some ⟨b,0,none⟩)
def NewRow (w:World) (v v':Value):Prop:=v'.ownBlock = v.ownBlock∨∃ k,v'.ownBlock = some k∧w.heap.size≤k
theorem BdAt.is {T e:TypeId} {b:Nat} {p:Value} {bs:List Value} {v:Value} {w:World} (h:BdAt T e b p bs v w):Lib.BuilderAt T e 0 b p bs w:=⟨Nat.zero_le _,v,h.1,h.2.1,h.2.2⟩
theorem BdAt.lt {T e:TypeId} {b:Nat} {p:Value} {bs:List Value} {v:Value} {w:World} (h:BdAt T e b p bs v w):b < w.heap.size:=(Array.getElem?_eq_some_iff.1 h.1).1
variable {P:Program} {ρ:Ren}
theorem BdAt.put {T e:TypeId} {b:Nat} {p v v':Value} {bs':List Value} {w:World} (hb:w.heap[b]? = some (.cells #[p,v] T (0,0))) (hown:w.ownsRow 0 e 1 v' bs'.length bs') (hTe:T≠e) :
    BdAt T e b p bs' v' (w.setCell ⟨b,1,none⟩ v'):=by
  have hne:=Lib.ownBlock_ne hown hb hTe
  refine ⟨?_,?_,hne⟩
  · simp [World.setCell,Array.getElem?_modify,hb]
  · exact hown.kept (row:=some b) ⟨rfl,rfl,rfl,by simp [World.setCell],fun k _ hk=>Below.heap_setCell _ _ _ _ (fun e=>hk (by simp [e]))⟩ (Or.inr hne)
theorem Gr.freeze (w:World) (b g n:Nat):Gr w (w.freeze ⟨g,0,none⟩ n) b (some g):=by
  unfold World.freeze
  split
  · exact Gr.refl _ _ _
  · exact ⟨rfl,rfl,rfl,by simp,fun k hk _ hn=>by
      simp only [Array.getElem?_modify]
      rw [if_neg (fun e=>hn (by simp [e]))]⟩
end Go.Fw
namespace Go.Fw
open Go.Shelf Go.RowKit Go.Proofs
variable {P:Program}
def rowX (e:TypeId) (s:List UInt8):XCh where
  ids:=[]
  fixed:=false
  nil:=s = []
  rel _ _ _ _ o cap:=∃ cur:Array Value,o = .cells cur e (0,0)∧s.length≤cap∧cap≤maxLen∧cur.size = cap∧cur.toList.take s.length = Lib.byteCells s
  mono _ _ _ _ h:=h
def bldX (T:TypeId) (j n:Nat):XCh where
  ids:=[j]
  fixed:=true
  nil:=False
  rel φ _ _ b o _:=∃ p v,o = .cells #[p,v] T (0,0)∧(p = .pointer none∨p = selfP b)∧((n = 0∧v = .slice none 0 0)∨∃ g c,φ j = some (g,c)∧n≤c∧v = .slice (some ⟨g,0,none⟩) n c)
  mono _ _ hφ _ h:=by
    obtain ⟨p,v,h1,h2,h3⟩:=h
    exact ⟨p,v,h1,h2,by rw [hφ j (by simp)];exact h3⟩
abbrev bldH (T e:TypeId) (i j:Nat) (s:List UInt8):List (Nat × Chunk):=[(i,.ext (bldX T j s.length)),(j,.ext (rowX e s))]
def rowPl:Value→Option (Nat × Nat)
  | .slice (some a) _ c=>some (a.block,c)
  | _=>none
variable {ρ:Ren}
def St.addN (st:St) (c:Chunk):St:={ n:=st.n,fix:=st.fix,next:=st.next + 1,env:=st.env,heap:=(st.next,c) :: st.heap,gl:=st.gl }
end Go.Fw

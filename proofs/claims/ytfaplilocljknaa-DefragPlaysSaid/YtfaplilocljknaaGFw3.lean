import Derived.Test.YtfaplilocljknaaGFw2
import Derived.Laws.Append
set_option linter.all false
namespace Go.Fw
def srcV (lk:Heap) (ty:Ty) (x:AV) (K:List ty.D→Prop):Prop:=
  match x with
  | .nils=>K []
  | .list ty' ys=>if h:ty' = ty then K (h ▸ ys) else False
  | .own id n=>match lk id with
    | some (.arr ty' zs)=>if h:ty' = ty then n≤zs.length∧K ((h ▸ zs:List ty.D).take n) else False
    | _=>False
  | .str s=>if h:Ty.int .u8 = ty then K (h ▸ intsOf s) else False
  | _=>False
def RowOf (w:World) (R:Prot) (ty:Ty) (ys:List ty.D) (cells:List Value):Prop:=
  cells.length = ys.length * ty.size∧∀ (i:Nat) (h:i < ys.length),Rep w R ty ys[i] ((cells.drop (i * ty.size)).take ty.size)
theorem RowOf.nil (w:World) (R:Prot) (ty:Ty):RowOf w R ty [] []:=⟨by simp,fun i h=>by simp at h⟩
theorem RowOf.one {w:World} {R:Prot} {ty:Ty} {ys:List ty.D} {cells:List Value} (h:RowOf w R ty ys cells):∀ v∈cells,v.oneCell' = true:=by
  intro v hv
  obtain ⟨j,hj,rfl⟩:=List.getElem_of_mem hv
  have hpos:0 < ty.size:=by
    rcases Nat.eq_zero_or_pos ty.size with h0|h0
    · rw [h.1,h0] at hj;simp at hj
    · exact h0
  have hlt:j / ty.size < ys.length:=Nat.div_lt_of_lt_mul (by rw [Nat.mul_comm];rw [← h.1];exact hj)
  refine (h.2 _ hlt).oneCell _ ?_
  rw [List.mem_iff_getElem?]
  refine ⟨j % ty.size,?_⟩
  rw [List.getElem?_take,if_pos (Nat.mod_lt _ hpos),List.getElem?_drop,Nat.mul_comm,Nat.div_add_mod]
  simp [hj]
theorem RowOf.append {w:World} {R:Prot} {ty:Ty} {xs ys:List ty.D} {c d:List Value} (h:RowOf w R ty xs c) (k:RowOf w R ty ys d):RowOf w R ty (xs ++ ys) (c ++ d):=by
  refine ⟨by simp [h.1,k.1,Nat.add_mul],fun i hi=>?_⟩
  by_cases hx:i < xs.length
  · rw [List.getElem_append_left hx]
    have:=h.2 i hx
    rw [List.drop_append_of_le_length (by rw [h.1];exact Nat.mul_le_mul_right _ (by omega)),List.take_append_of_le_length]
    · exact this
    · simp only [List.length_drop,h.1]
      have:(i + 1) * ty.size≤xs.length * ty.size:=Nat.mul_le_mul_right _ hx
      rw [Nat.add_mul,Nat.one_mul] at this
      omega
  · rw [List.getElem_append_right (by omega)]
    have:=k.2 (i - xs.length) (by simp at hi;omega)
    rw [List.drop_append,List.drop_of_length_le (by rw [h.1];exact Nat.mul_le_mul_right _ (by omega)),List.nil_append,h.1,← Nat.sub_mul]
    exact this
theorem RowOf.take {w:World} {R:Prot} {ty:Ty} {xs:List ty.D} {c:List Value} (h:∀ (i:Nat) (hi:i < xs.length),Rep w R ty xs[i] ((c.drop (i * ty.size)).take ty.size)) (n:Nat) (hn:n≤xs.length) (hl:n * ty.size≤c.length) :
    RowOf w R ty (xs.take n) (c.take (n * ty.size)):=by
  refine ⟨by simp;rw [Nat.min_eq_left hl,Nat.min_eq_left hn],fun i hi=>?_⟩
  simp only [List.length_take] at hi
  rw [List.getElem_take]
  have:=h i (by omega)
  have e:((c.take (n * ty.size)).drop (i * ty.size)).take ty.size = (c.drop (i * ty.size)).take ty.size:=by
    rw [List.drop_take,List.take_take,Nat.min_eq_left]
    have:(i + 1) * ty.size≤n * ty.size:=Nat.mul_le_mul_right _ (by omega)
    rw [Nat.add_mul,Nat.one_mul] at this
    omega
  rw [e]
  exact this
section
variable {P:Program} {T:Tab} (hT:tabOK P T = true)
include hT
omit hT in
theorem rows_load {w:World} {R:Prot} {ty:Ty} {ys:List ty.D} {b o:Nat} (h:∀ (i:Nat) (hi:i < ys.length),∃ us,us.length = ty.size∧CellsAt w R b (o + i * ty.size) us∧Rep w R ty ys[i] us) :
    ∃ cells:List Value,RowOf w R ty ys cells∧(loadCells ⟨b,o,none⟩ (ys.length * ty.size)).run P w = .ok cells.toArray w:=by
  have hcell:∀ j,j < ys.length * ty.size→∃ v,w.cell? ⟨b,o + j,none⟩ = some v:=by
    intro j hj
    have hpos:0 < ty.size:=by
      rcases Nat.eq_zero_or_pos ty.size with h0|h0
      · rw [h0] at hj;simp at hj
      · exact h0
    have hlt:j / ty.size < ys.length:=Nat.div_lt_of_lt_mul (by rw [Nat.mul_comm];exact hj)
    obtain ⟨us,hl,hc,_⟩:=h _ hlt
    have hm:=Nat.mod_lt j hpos
    have:=(hc (j % ty.size) us[j % ty.size] (by simp [hl,hm])).2
    rw [Nat.add_assoc,Nat.mul_comm (j / ty.size),Nat.div_add_mod] at this
    exact ⟨_,this⟩
  let f:Nat→Value:=fun j=>(w.cell? ⟨b,o + j,none⟩).getD undef
  have hf:∀ j,j < ys.length * ty.size→w.cell? ((⟨b,o,none⟩:Addr).add j) = some (f j):=by
    intro j hj
    obtain ⟨v,hv⟩:=hcell j hj
    rw [Addr.add_lit]
    simp only [f,hv,Option.getD_some]
  refine ⟨(List.range (ys.length * ty.size)).map f,⟨by simp,fun i hi=>?_⟩,run_loadCells w _ _ f hf⟩
  obtain ⟨us,hl,hc,hr⟩:=h i hi
  have:(((List.range (ys.length * ty.size)).map f).drop (i * ty.size)).take ty.size = us:=by
    apply List.ext_getElem?
    intro j
    have hmul:(i + 1) * ty.size≤ys.length * ty.size:=Nat.mul_le_mul_right _ hi
    rw [Nat.add_mul,Nat.one_mul] at hmul
    rw [List.getElem?_take]
    by_cases hj:j < ty.size
    · rw [if_pos hj,List.getElem?_drop]
      have h1:us[j]? = some us[j]:=by simp [hl,hj]
      have:=(hc j us[j] h1).2
      rw [h1]
      simp only [List.getElem?_map,List.getElem?_range (show i * ty.size + j < ys.length * ty.size by omega),Option.map_some,f]
      rw [← Nat.add_assoc,this]
      rfl
    · rw [if_neg hj,List.getElem?_eq_none (by omega)]
  rw [this]
  exact hr
theorem src_run {lk:Heap} {ty:Ty} {x:AV} {K:List ty.D→Prop} (h:srcV lk ty x K) :
    ∃ ys,K ys∧∀ φ R w u,RepV φ R w x u→ChOK φ R w lk x→∃ cells:List Value,RowOf w R ty ys cells∧(Builtin.lenOf u).run P w = .ok ys.length w∧
      (Builtin.firstCells ty.size ys.length u).run P w = .ok cells.toArray w:=by
  unfold srcV at h
  split at h
  · refine ⟨_,h,fun φ R w u hr _=>⟨[],RowOf.nil w R ty,?_,?_⟩⟩ <;> simp only [RepV] at hr <;> subst hr <;> simp [Builtin.lenOf,Builtin.firstCells]
  · rename_i ty' ys
    split at h
    · rename_i e
      subst e
      refine ⟨_,h,fun φ R w u hr _=>?_⟩
      simp only [RepV,Rep] at hr
      obtain ⟨p,cap,hp,hcap,hr⟩:=hr
      simp only [List.cons.injEq,and_true] at hp
      subst hp
      rcases hr with ⟨rfl,rfl⟩|⟨b,o,rfl,hr⟩
      · exact ⟨[],RowOf.nil w R _,by simp [Builtin.lenOf],by cases p <;> simp [Builtin.firstCells,loadCells,loadCellsFrom]⟩
      · obtain ⟨cells,hrow,hl⟩:=rows_load (P:=P) hr
        exact ⟨cells,hrow,by simp [Builtin.lenOf],by simpa [Builtin.firstCells] using hl⟩
    · exact h.elim
  · rename_i id n
    split at h
    · rename_i ty' zs hlk
      split at h
      · rename_i e
        subst e
        obtain ⟨hn,h⟩:=h
        refine ⟨_,h,fun φ R w u hr hc=>?_⟩
        have hc:=hc id _ (by simp [AV.has]) hlk
        simp only [RepV] at hr
        have hlen:(zs.take n).length = n:=by simp;omega
        rcases hr with ⟨h1,rfl,rfl⟩|⟨b,cap,hφ,hcap,rfl⟩
        · exact ⟨[],by simpa using RowOf.nil w R _,by simp [Builtin.lenOf],by simp [Builtin.firstCells]⟩
        · rcases hc with ⟨h1,h2⟩|⟨b',cap',vs,e,fr,hφ',hh,hsz,hcap',hel,_⟩
          · rw [hφ] at h1;simp at h1
          · rw [hφ] at hφ'
            simp only [Option.some.injEq,Prod.mk.injEq] at hφ'
            obtain ⟨rfl,rfl⟩:=hφ'
            have hle:n * ty'.size≤vs.toList.length:=by simp [hsz];exact Nat.mul_le_mul_right _ hcap
            have hrow:=RowOf.take hel n hn hle
            refine ⟨vs.toList.take (n * ty'.size),hrow,by simp [Builtin.lenOf,hlen],?_⟩
            have hl:=run_loadCells_list (P:=P) w ⟨b,0,none⟩ (vs.toList.take (n * ty'.size)) (fun j v hj=>by
              rw [Addr.add_lit]
              have hj':vs.toList[j]? = some v:=by
                rw [List.getElem?_take] at hj
                split at hj
                · exact hj
                · simp at hj
              simp only [World.cell?,hh,Nat.zero_add]
              simpa using hj')
            have hll:(vs.toList.take (n * ty'.size)).length = n * ty'.size:=by simp only [List.length_take];omega
            rw [hll] at hl
            simp only [Builtin.firstCells,hlen]
            exact hl
      · exact h.elim
    · exact h.elim
  · rename_i s
    split at h
    · rename_i e
      subst e
      refine ⟨_,h,fun φ R w u hr _=>?_⟩
      simp only [RepV] at hr
      subst hr
      refine ⟨(intsOf s).map (Value.int .u8),⟨by simp [Ty.size],fun i hi=>?_⟩,by simp [Builtin.lenOf,bs_size,intsOf],?_⟩
      · have hlt:i < ((intsOf s).map (Value.int .u8)).length:=by simpa using hi
        simp only [Rep,Ty.size,Nat.mul_one]
        rw [List.drop_eq_getElem_cons hlt,List.take_succ_cons,List.take_zero]
        simp
      · simp only [Builtin.firstCells,Sem.run_pure]
        congr 1
        apply Array.ext'
        simp [bs_extract,intsOf,bs,List.take_of_length_le]
    · exact h.elim
  · exact h.elim
def notInt (T:Tab) (t:TypeId):Bool:=
  match tget T t with
  | some e=>match e.k with
    | .slice _=>true
    | .str=>true
    | _=>false
  | none=>false
theorem notInt_sound {t:TypeId} (h:notInt T t = true):(∃ x,P.underlying t = some (.slice x))∨P.underlying t = some .string:=by
  unfold notInt at h
  split at h
  · rename_i e he
    split at h
    · rename_i hk;exact .inl ⟨_,tk_slice hT he hk⟩
    · rename_i hk;exact .inr (tk_str hT he hk)
    · simp at h
  · simp at h
theorem append_room {ts tx rt et:TypeId} {e ee:TE} (he:tget T ts = some e) (hk:e.k = .slice et) (hee:tget T et = some ee) (hni:notInt T tx = true) {p:Option Addr} {n cap m:Nat} {u:Value} {cells:Array Value} {w:World}
    (hlen:(Builtin.lenOf u).run P w = .ok m w) (hcs:(Builtin.firstCells ee.size m u).run P w = .ok cells w) (hroom:n + m≤cap) :
    (Builtin.append_ #[ts,tx] rt #[.slice p n cap,u]).run P w = ((match p with
      | some a=>storeCells (a.add (n * ee.size)) cells.toList
      | none=>(pure ():Sem Unit)).run P w).andThen fun _ w'=>.ok (.slice p (n + m) cap) w':=by
  have hts:=tk_slice hT he hk
  rcases notInt_sound hT hni with ⟨d,hd⟩|hd
  all_goals
    simp only [Builtin.append_,List.getElem?_toArray,List.getElem?_cons_zero,List.getElem?_cons_succ,Sem.run_bind,run_underlying hts,Result.andThen_ok,run_sizeOf_tab hT hee,run_underlying hd,Sem.run_pure,
      Bool.false_eq_true,if_false,hlen,Bool.not_false,if_true]
    rw [if_pos hroom]
    simp only [Sem.run_bind,hcs,Result.andThen_ok]
    cases p <;> simp
theorem append_grow {ts tx rt et:TypeId} {e ee:TE} (he:tget T ts = some e) (hk:e.k = .slice et) (hee:tget T et = some ee) (hni:notInt T tx = true) {p:Option Addr} {n cap m:Nat} {u:Value} {old cells:Array Value} {w:World}
    (hlen:(Builtin.lenOf u).run P w = .ok m w) (hcs:(Builtin.firstCells ee.size m u).run P { w with drawn:=w.drawn + 1 } = .ok cells { w with drawn:=w.drawn + 1 })
    (hold:(Builtin.firstCells ee.size n (.slice p n cap)).run P { w with drawn:=w.drawn + 1 } = .ok old { w with drawn:=w.drawn + 1 })
    (hroom:¬ n + m≤cap) (hb1:(n + m) * ee.bytes≤140737488355328) (hb2:n + m≤140737488355328) :
    ∃ (newCap:Nat) (zs:Array Value),n + m≤newCap∧zs.size = (newCap - (n + m)) * ee.size∧
      (Builtin.append_ #[ts,tx] rt #[.slice p n cap,u]).run P w = .ok (.slice (some ⟨w.heap.size,0,none⟩) (n + m) newCap) (pushed w (.cells (old ++ cells ++ zs) et) (w.drawn + 1)):=by
  have hts:=tk_slice hT he hk
  obtain ⟨z,hz,hzc,hzs⟩:=zero_size hT hee
  obtain ⟨ti,hti,htb,hts'⟩:=run_typeInfo_tab hT hee
  obtain ⟨newCap,hcap,hcut⟩:∃ c,n + m≤c∧(Question.appendCap (n + m) cap et).cut (w.tape w.drawn (.appendCap (n + m) cap et)) = c:=⟨_,by simp [Question.cut],rfl⟩
  have hgrow:=growslice_fits (need:=n + m) (old:=cap) (bytes:=ee.bytes) (by omega) hb1
  refine ⟨newCap,Builtin.zeroCells z.cells (newCap - (n + m)),hcap,by simp [Builtin.zeroCells,hzs],?_⟩
  rcases notInt_sound hT hni with ⟨d,hd⟩|hd
  all_goals
    simp only [Builtin.append_,List.getElem?_toArray,List.getElem?_cons_zero,List.getElem?_cons_succ,Sem.run_bind,run_underlying hts,Result.andThen_ok,run_sizeOf_tab hT hee,run_underlying hd,Sem.run_pure,
      Bool.false_eq_true,if_false,hlen,Bool.not_false,if_true]
    rw [if_neg hroom]
    simp only [Sem.run_bind,hti,Result.andThen_ok,htb,IntKind.max_i64,false_or]
    rw [if_neg (by omega)]
    simp only [Sem.run_bind,hti,Result.andThen_ok,htb]
    rw [if_neg (by omega)]
    simp only [Sem.run_bind,run_choose,Question.forced,Bool.false_eq_true,if_false,hcut,Result.andThen_ok,hti,run_askRoom,hold,hcs,hz,newRow,run_newObj,Sem.run_pure]
    rfl
def appNilV (T:Tab) (lk:Heap) (id:Nat) (ts tx:TypeId) (x:AV) (K:AV→Option Chunk→Prop):Prop:=
  match tget T ts with
  | some e=>match e.k with
    | .slice et=>match tget T et,tyOf T 20 et with
      | some ee,some ty=>match Nat.beq ee.size ty.size,notInt T tx with
        | true,true=>srcV lk ty x fun ys=>(ys.length * ee.bytes≤140737488355328∧ys.length≤140737488355328)∧K (.own id ys.length) (some (.arr ty ys))
        | _,_=>False
      | _,_=>False
    | _=>False
  | none=>False
omit hT in
theorem ChOK.drew {φ:Place} {R:Prot} {w:World} {lk:Heap} {a:AV} (h:ChOK φ R w lk a) (d:Nat):ChOK φ R { w with drawn:=d } lk a:=fun id c h1 h2=>by
  have hc:=h id c h1 h2
  cases c with
  | box cs=>
    obtain ⟨b,cap,vs,e,fr,q1,q2,q3,q4,q5⟩:=hc
    exact ⟨b,cap,vs,e,fr,q1,q2,RepVs.mono (w:=w) (w':={ w with drawn:=d }) (fun _ _ h=>h) (fun _ _ _=>rfl) (fun _ _=>rfl) q3,q4,q5⟩
  | arr t xs=>
    rcases hc with hc|⟨b,cap,vs,e,fr,q1,q2,q3,q4,q5,q6,q7⟩
    · exact .inl hc
    · exact .inr ⟨b,cap,vs,e,fr,q1,q2,q3,q4,fun i hi=>Rep.mono (w:=w) (w':={ w with drawn:=d }) (fun _ _ h=>h) (fun _ _ _=>rfl) (q5 i hi),q6,q7⟩
  | ext X=>
    rcases hc with hc|⟨b,cap,o,q1,q2,q3,q4⟩
    · exact .inl hc
    exact .inr ⟨b,cap,o,q1,q2,X.mono (w:=w) (w':={ w with drawn:=d }) (fun _ _ h=>h) (fun _ _ _=>rfl) (fun _ _=>rfl) (fun _ _ _=>⟨rfl,fun _ h=>h⟩) q3,q4⟩
omit hT in
theorem RepV.drew {φ:Place} {R:Prot} {w:World} {a:AV} {u:Value} (h:RepV φ R w a u) (d:Nat):RepV φ R { w with drawn:=d } a u:=
  RepV.mono (w:=w) (w':={ w with drawn:=d }) (fun _ _ h=>h) (fun _ _ _=>rfl) (fun _ _=>rfl) h
theorem appNil_sound {gl:Gl} {lk:Heap} {ev:Operand→AV} {id:Nat} {ts tx:TypeId} {s x:Operand} {K:AV→Option Chunk→Prop} (hsv:ev s = .nils) (h:appNilV T lk id ts tx (ev x) K) (o:Oper)
    (ho:o.op = .call ⟨.builtin .append,⟨[s,x]⟩,⟨[ts,tx]⟩⟩):∃ v c,K v c∧Flo P gl o ev lk id v c:=by
  unfold appNilV at h
  split at h
  · rename_i e he
    split at h
    · rename_i et hk
      split at h
      · rename_i ee ty hee hty
        split at h
        · rename_i hsz hni
          have hsz:=Nat.eq_of_beq_eq_true hsz
          obtain ⟨ys,⟨⟨hb1,hb2⟩,hK⟩,hsrc⟩:=src_run hT h
          refine ⟨_,_,hK,⟨fun φ R a w hr hc hR _ next Q hnext=>?_,fun j hj=>by simp [AV.has] at hj;exact .inr ⟨hj.symm,rfl⟩,fun ch j h hj=>by obtain rfl:=Option.some.inj h;simp [Chunk.has] at hj⟩⟩
          have hrs:=hr s (by simp [ho,Op.operands,Call.operands])
          have hrx:=hr x (by simp [ho,Op.operands,Call.operands])
          have hcx:=hc x (by simp [ho,Op.operands,Call.operands])
          rw [hsv] at hrs
          simp only [RepV] at hrs
          have hex:(execOp a.eval o).run P w = ((Builtin.append_ #[ts,tx] o.type #[.slice none 0 0,a.eval x]).run P w).andThen fun v w'=>.ok (.value v) w':=by
            simp [execOp,ho,resolve,invoke,builtin,hrs]
          unfold Oper.wp
          rw [hex]
          by_cases h0:ys.length = 0
          · obtain ⟨cells,hrow,hl,hcs⟩:=hsrc φ R w _ hrx hcx
            rw [append_room hT he hk hee hni (p:=none) hl (by rw [hsz];exact hcs) (by omega)]
            simp only [Sem.run_pure,Result.andThen_ok]
            have hys:ys = []:=List.eq_nil_of_length_eq_zero h0
            subst hys
            refine hnext (setPlace φ id none) R w _ ⟨⟨rfl,rfl,rfl,Nat.le_refl _,fun _ _ _=>rfl,fun _ _ h=>h,fun _ _ _=>rfl,fun _ _ h=>.inl h,fun b hb=>?_⟩,hR,fun j hj=>by simp [setPlace,hj],fun ch hch=>?_,fun ch hch=>by (simp only [Option.some.injEq] at hch;subst hch;intro _ _ _ h;exact h)⟩ ?_
            · obtain ⟨_,cap,h⟩:=hb;simp [setPlace] at h
            · simp only [Option.some.injEq] at hch
              subst hch
              exact ⟨.inl ⟨by simp [setPlace],rfl⟩,fun b cap h=>by simp [setPlace] at h⟩
            · simp only [RepV]
              exact .inl ⟨by simp [setPlace],rfl,rfl⟩
          · obtain ⟨cells,hrow,hl,hcs⟩:=hsrc φ R { w with drawn:=w.drawn + 1 } _ (hrx.drew _) (ChOK.drew hcx _)
            obtain ⟨_,_,hl0,_⟩:=hsrc φ R w _ hrx hcx
            obtain ⟨newCap,zs,hcap,hzs,hrun⟩:=append_grow hT (rt:=o.type) (p:=none) (n:=0) (cap:=0) (old:=#[]) he hk hee hni hl0 (by rw [hsz];exact hcs) (by simp [Builtin.firstCells]) (by omega) (by simpa using hb1) (by omega)
            rw [hrun]
            simp only [Result.andThen_ok]
            have hcw:∀ b k,R b k→(pushed w (.cells (#[] ++ cells.toArray ++ zs) et) (w.drawn + 1)).cell? ⟨b,k,none⟩ = w.cell? ⟨b,k,none⟩:=fun b k hb=>pushed_cell (hR b k hb)
            refine hnext (setPlace φ id (some (w.heap.size,newCap))) R _ _ (stepTo_push hR _ et (0,0) newCap _ _ ?_) ?_
            · refine .inr ⟨w.heap.size,newCap,_,et,(0,0),by simp [setPlace],pushed_get _ _ _,?_,by omega,fun i hi=>?_,not_prot_new hR,noFr_zero _⟩
              · simp only [Array.size_append,List.size_toArray,hrow.1,hzs,hsz]
                simp only [List.length_nil,Nat.zero_add]
                rw [← Nat.add_mul]
                congr 1
                omega
              · have h1:=hrow.2 i hi
                have e1:((#[] ++ cells.toArray ++ zs).toList.drop (i * ty.size)).take ty.size = (cells.drop (i * ty.size)).take ty.size:=by
                  simp only [Array.toList_append,List.nil_append]
                  have hle:(i + 1) * ty.size≤ys.length * ty.size:=Nat.mul_le_mul_right _ hi
                  rw [Nat.add_mul,Nat.one_mul,← hrow.1] at hle
                  rw [List.drop_append_of_le_length (by omega),List.take_append_of_le_length (by simp;omega)]
                rw [e1]
                exact Rep.mono (w:={ w with drawn:=w.drawn + 1 }) (fun _ _ h=>h) hcw h1
            · simp only [RepV]
              exact .inr ⟨w.heap.size,newCap,by simp [setPlace],by omega,by simp⟩
        · exact h.elim
      · exact h.elim
    · exact h.elim
  · exact h.elim
end
end Go.Fw
namespace Go.Fw
theorem ChunkRel.mono {φ φ':Place} {R R':Prot} {w w':World} {id:Nat} {c:Chunk} (h:ChunkRel φ R w id c) (hid:φ' id = φ id)
    (hn:∀ j,c.has j = true→φ' j = φ j) (hR:∀ b o,R b o→R' b o) (hk:∀ b o,R b o→w'.cell? ⟨b,o,none⟩ = w.cell? ⟨b,o,none⟩)
    (hb:∀ b cap x,φ id = some (b,cap)→c.at b cap x→x < w.heap.size→w'.heap[x]? = w.heap[x]?∧∀ o,R' x o→R x o):ChunkRel φ' R' w' id c:=by
  cases c with
  | box cs=>
    obtain ⟨b,cap,vs,e,fr,h1,h2,h3,h4,h5⟩:=h
    have hlt:b < w.heap.size:=(Array.getElem?_eq_some_iff.1 h2).1
    obtain ⟨hb1,hb2⟩:=hb b cap b h1 rfl hlt
    exact ⟨b,cap,vs,e,fr,by rw [hid,h1],by rw [hb1,h2],RepVs.mono hR hk (fun j hj=>hn j hj) h3,fun o h=>h4 o (hb2 o h),h5⟩
  | arr t xs=>
    rcases h with ⟨h1,h2⟩|⟨b,cap,vs,e,fr,h1,h2,h3,h4,h5,h6,h7⟩
    · exact .inl ⟨by rw [hid,h1],h2⟩
    · have hlt:b < w.heap.size:=(Array.getElem?_eq_some_iff.1 h2).1
      obtain ⟨hb1,hb2⟩:=hb b cap b h1 rfl hlt
      exact .inr ⟨b,cap,vs,e,fr,by rw [hid,h1],by rw [hb1,h2],h3,h4,fun i hi=>Rep.mono hR hk (h5 i hi),fun o h=>h6 o (hb2 o h),h7⟩
  | ext X=>
    rcases h with ⟨h1,h2⟩|⟨b,cap,o,h1,h2,h3,h4⟩
    · exact .inl ⟨by rw [hid,h1],h2⟩
    have hlt:b < w.heap.size:=(Array.getElem?_eq_some_iff.1 h2).1
    obtain ⟨hb1,hb2⟩:=hb b cap b h1 (.inl rfl) hlt
    exact .inr ⟨b,cap,o,by rw [hid,h1],by rw [hb1,h2],X.mono hR hk (fun j hj=>hn j hj) (fun x hx=>hb b cap x h1 (.inr hx)) h3,fun o h=>h4 o (hb2 o h)⟩
theorem ChunkRel.block {φ:Place} {R:Prot} {w:World} {id:Nat} {c:Chunk} (h:ChunkRel φ R w id c) {b cap:Nat} (hp:φ id = some (b,cap)):b < w.heap.size∧∀ o,¬ R b o:=by
  cases c with
  | box cs=>
    obtain ⟨b',cap',vs,e,fr,h1,h2,h3,h4,h5⟩:=h
    rw [hp] at h1
    simp only [Option.some.injEq,Prod.mk.injEq] at h1
    obtain ⟨rfl,rfl⟩:=h1
    exact ⟨(Array.getElem?_eq_some_iff.1 h2).1,h4⟩
  | arr t xs=>
    rcases h with ⟨h1,h2⟩|⟨b',cap',vs,e,fr,h1,h2,h3,h4,h5,h6,h7⟩
    · rw [hp] at h1;simp at h1
    · rw [hp] at h1
      simp only [Option.some.injEq,Prod.mk.injEq] at h1
      obtain ⟨rfl,rfl⟩:=h1
      exact ⟨(Array.getElem?_eq_some_iff.1 h2).1,h6⟩
  | ext X=>
    rcases h with ⟨h1,_⟩|⟨b',cap',o,h1,h2,h3,h4⟩
    · rw [hp] at h1;simp at h1
    rw [hp] at h1
    simp only [Option.some.injEq,Prod.mk.injEq] at h1
    obtain ⟨rfl,rfl⟩:=h1
    exact ⟨(Array.getElem?_eq_some_iff.1 h2).1,h4⟩
theorem ChunkRel.blocks {φ:Place} {R:Prot} {w:World} {id:Nat} {c:Chunk} (h:ChunkRel φ R w id c) {b cap x:Nat} (hp:φ id = some (b,cap)) (hx:c.at b cap x):x < w.heap.size∧∀ o,¬ R x o:=by
  cases c with
  | box cs=>cases hx;exact h.block hp
  | arr t xs=>cases hx;exact h.block hp
  | ext X=>
    rcases hx with rfl|hx
    · exact h.block hp
    · rcases h with ⟨h1,_⟩|⟨b',cap',o,h1,h2,h3,h4⟩
      · rw [hp] at h1;simp at h1
      rw [hp] at h1
      simp only [Option.some.injEq,Prod.mk.injEq] at h1
      obtain ⟨rfl,rfl⟩:=h1
      exact X.apart h3 x hx
abbrev Upd:=List (Nat × List AV × Option (List AV))
def newCells (old:List AV):Option (List AV)→List AV
  | some n=>n
  | none=>old
def applyU (H:Heap):Upd→Heap
  | []=>H
  | (j,old,n) :: r=>fun k=>if k = j then some (.box (newCells old n)) else applyU H r k
def updOK (H:Heap):Upd→Prop
  | []=>True
  | (j,old,_) :: r=>H j = some (.box old)∧updOK H r
def Upd.owns (φ:Place) (u:Upd) (b:Nat):Prop:=∃ x∈u,∃ cap,φ x.1 = some (b,cap)
theorem updOK.get {H:Heap}:∀ {u:Upd},updOK H u→∀ x∈u,H x.1 = some (.box x.2.1)
  | [],_,x,hx=>by simp at hx
  | (j,old,n) :: r,h,x,hx=>by
    rcases List.mem_cons.1 hx with rfl|hx
    · exact h.1
    · exact updOK.get h.2 x hx
theorem applyU_none {H:Heap}:∀ {u:Upd} {k:Nat},(∀ x∈u,x.1≠k)→applyU H u k = H k
  | [],_,_=>rfl
  | (j,old,n) :: r,k,h=>by
    simp only [applyU]
    rw [if_neg (fun e=>h _ (List.mem_cons_self ..) e.symm)]
    exact applyU_none (fun x hx=>h x (List.mem_cons_of_mem _ hx))
theorem applyU_inv {H:Heap}:∀ {u:Upd} {k:Nat} {c:Chunk},applyU H u k = some c→(∃ x∈u,x.1 = k∧c = .box (newCells x.2.1 x.2.2))∨((∀ x∈u,x.1≠k)∧H k = some c)
  | [],_,_,h=>.inr ⟨fun x hx=>by simp at hx,h⟩
  | (j,old,n) :: r,k,c,h=>by
    simp only [applyU] at h
    split at h
    · rename_i e
      simp only [Option.some.injEq] at h
      exact .inl ⟨_,List.mem_cons_self ..,e.symm,h.symm⟩
    · rename_i e
      rcases applyU_inv h with ⟨x,hx,h1⟩|⟨h1,h2⟩
      · exact .inl ⟨x,List.mem_cons_of_mem _ hx,h1⟩
      · exact .inr ⟨fun x hx=>by rcases List.mem_cons.1 hx with rfl|hx;exact fun h=>e h.symm;exact h1 x hx,h2⟩
theorem applyU_some {H:Heap}:∀ {u:Upd} {k:Nat} {c:Chunk},H k = some c→∃ c',applyU H u k = some c'
  | [],_,c,h=>⟨c,h⟩
  | (j,old,n) :: r,k,c,h=>by
    simp only [applyU]
    split
    · exact ⟨_,rfl⟩
    · exact applyU_some h
structure StepU (φ:Place) (R:Prot) (w:World) (upd:Upd) (id:Nat) (c:Option Chunk) (φ':Place) (R':Prot) (w':World):Prop where
  evo:Evo R (Upd.owns φ upd) w R' (fun b=>Upd.owns φ upd b∨(c.isSome = true∧∃ cap,φ' id = some (b,cap))) w'
  rb:RB R' w'
  place:∀ j,j≠id→φ' j = φ j
  chunk:∀ ch,c = some ch→ChunkRel φ' R' w' id ch∧∀ b cap x,φ' id = some (b,cap)→ch.at b cap x→w.heap.size≤x
  upds:∀ x∈upd,ChunkRel φ' R' w' x.1 (.box (newCells x.2.1 x.2.2))
theorem StepTo.toU {φ:Place} {R:Prot} {w:World} {id:Nat} {c:Option Chunk} {φ':Place} {R':Prot} {w':World} (h:StepTo φ R w id c φ' R' w'):StepU φ R w [] id c φ' R' w':=
  ⟨⟨h.evo.os,h.evo.tape,h.evo.output,h.evo.size,fun b hb _=>h.evo.keep b hb (fun h=>h),h.evo.rmono,h.evo.rkeep,fun b o hr=>by
      rcases h.evo.rnew b o hr with h1|h1|h1
      · exact .inl h1
      · exact .inr (.inl h1)
      · exact h1.elim,fun b hb=>by
      rcases hb with ⟨x,hx,_⟩|hb
      · simp at hx
      · rcases h.evo.onew b hb with h1|h1
        · exact .inl h1
        · exact h1.elim⟩,h.rb,h.place,fun ch hc=>⟨(h.chunk ch hc).1,fun b cap x hp hx=>by
          have:=h.single ch hc b cap x hx
          subst this
          exact (h.chunk ch hc).2 x cap hp⟩,fun x hx=>by simp at hx⟩
def addC (H:Heap) (id:Nat) (c:Option Chunk):Heap:=fun j=>if j = id then (match c with|some ch=>some ch|none=>H j) else H j
def setE (E:Nat→AV) (dst:Option Nat) (v:AV):Nat→AV:=fun t=>if dst = some t then v else E t
theorem SatF.step {R:Prot} {φ:Place} {n next:Nat} {E:Nat→AV} {H:Heap} {gl:Gl} {a:Act} {w:World} (h:SatF R φ n next E H gl a w) {id:Nat} (hfresh:H id = none)
    {next':Nat} (hnx:id < next') (hle:next≤next') {upd:Upd} (hu:updOK H upd)
    {c:Option Chunk} {φ':Place} {R':Prot} {w':World} (hs:StepU φ R w upd id c φ' R' w') {v:AV} {u:Value} (hv:RepV φ' R' w' v u) (dst:Option Nat) (hd:∀ d,dst = some d→d < n)
    (hn1:∀ j,v.has j = true→(∃ ch,H j = some ch)∨(j = id∧c.isSome = true)) (hn2:∀ ch j,c = some ch→ch.has j = true→∃ ch,H j = some ch)
    (hn3:∀ x∈upd,∀ j,AV.hasAny j (newCells x.2.1 x.2.2) = true→∃ ch,H j = some ch) :
    SatF R' φ' n next' (setE E dst v) (addC (applyU H upd) id c) gl (a.put dst u) w'∧Evo R (Owns φ H) w R' (Owns φ' (addC (applyU H upd) id c)) w':=by
  have hne:∀ j ch,H j = some ch→j≠id:=fun j ch hj e=>by subst e;rw [hfresh] at hj;simp at hj
  have hug:=hu.get
  have hadd:∀ j ch,H j = some ch→∃ ch',addC (applyU H upd) id c j = some ch':=fun j ch hj=>by
    obtain ⟨ch',h'⟩:=applyU_some (u:=upd) hj
    exact ⟨ch',by simp [addC,hne j ch hj,h']⟩
  have hinv:∀ j ch,addC (applyU H upd) id c j = some ch→(j = id∧c = some ch)∨(j≠id∧applyU H upd j = some ch):=by
    intro j ch hj
    unfold addC at hj
    by_cases e:j = id
    · rw [if_pos e] at hj
      cases c with
      | some ch'=>simp at hj;exact .inl ⟨e,by rw [hj]⟩
      | none=>
        simp at hj
        rcases applyU_inv hj with ⟨x,hx,h1,_⟩|⟨_,h2⟩
        · have:=hug x hx
          rw [h1,e,hfresh] at this
          simp at this
        · rw [e,hfresh] at h2;simp at h2
    · rw [if_neg e] at hj;exact .inr ⟨e,hj⟩
  have hold:∀ j ch b cap x,H j = some ch→φ j = some (b,cap)→ch.at b cap x→x < w.heap.size:=fun j ch b cap x hj hp hx=>((h.heap.rel j ch hj).blocks hp hx).1
  have happ:∀ j ch,applyU H upd j = some ch→∃ ch',H j = some ch'∧∀ b cap x,ch.at b cap x→ch'.at b cap x:=fun j ch hj=>by
    rcases applyU_inv hj with ⟨x,hx,h1,h2⟩|⟨_,h2⟩
    · exact ⟨_,h1 ▸ hug x hx,fun b cap x hx=>by rw [h2] at hx;exact hx⟩
    · exact ⟨_,h2,fun _ _ _ h=>h⟩
  have hnot:∀ j ch b cap y,H j = some ch→(∀ x∈upd,x.1≠j)→φ j = some (b,cap)→ch.at b cap y→¬ Upd.owns φ upd y:=by
    rintro j ch b cap y hj hx hp hy ⟨x,hxm,cap',hp'⟩
    exact hx x hxm (h.heap.inj x.1 j _ _ y b cap' cap y (hug x hxm) hj hp' hp rfl hy)
  refine ⟨⟨fun t=>?_,fun t j hj=>?_,fun j cs k hj hk=>?_,fun j ch hj=>?_,?_,⟨fun j ch hj=>?_,fun j j' ch ch' b b' cap cap' y hj hj' hp hp' hy hy'=>?_⟩,hs.rb,?_,fun g cs hg=>?_⟩,?_⟩
  · rw [getD_put a dst u t (fun d hd'=>by rw [h.sz];exact hd d hd')]
    unfold setE
    split
    · exact hv
    · exact RepV.mono hs.evo.rmono hs.evo.rkeep (fun j hj=>by
        obtain ⟨ch,hch⟩:=h.named t j hj
        exact hs.place j (hne j ch hch)) (h.env t)
  · unfold setE at hj
    split at hj
    · rcases hn1 j hj with ⟨ch,hch⟩|⟨rfl,hc⟩
      · exact hadd j ch hch
      · obtain ⟨ch,rfl⟩:=Option.isSome_iff_exists.1 hc
        exact ⟨ch,by simp [addC]⟩
    · obtain ⟨ch,hch⟩:=h.named t j hj
      exact hadd j ch hch
  · rcases hinv j _ hj with ⟨rfl,hc⟩|⟨_,hj⟩
    · obtain ⟨ch,hch⟩:=hn2 cs k hc hk
      exact hadd k ch hch
    · rcases applyU_inv hj with ⟨x,hx,_,h1⟩|⟨_,hj⟩
      · subst h1
        obtain ⟨ch,hch⟩:=hn3 x hx k hk
        exact hadd k ch hch
      · obtain ⟨ch,hch⟩:=h.hnamed j cs k hj hk
        exact hadd k ch hch
  · rcases hinv j _ hj with ⟨rfl,_⟩|⟨_,hj⟩
    · exact hnx
    · obtain ⟨ch',hj,_⟩:=happ j ch hj
      have:=h.hnext j ch' hj;omega
  · cases dst <;> simp [Act.put,h.sz]
  · rcases hinv j _ hj with ⟨rfl,hc⟩|⟨hji,hj⟩
    · exact (hs.chunk ch hc).1
    · rcases applyU_inv hj with ⟨x,hx,rfl,h1⟩|⟨hnu,hj⟩
      · rw [h1];exact hs.upds x hx
      · exact (h.heap.rel j ch hj).mono (hs.place j hji) (fun k hk=>by
          obtain ⟨ch',hch'⟩:=h.hnamed j ch k hj hk
          exact hs.place k (hne k ch' hch')) hs.evo.rmono hs.evo.rkeep (fun b cap y hp hy hlt=>⟨hs.evo.keep y hlt (hnot j ch b cap y hj hnu hp hy),fun o hr=>by
            rcases hs.evo.rnew y o hr with h1|h1|h1
            · exact h1
            · omega
            · exact absurd h1 (hnot j ch b cap y hj hnu hp hy)⟩)
  · rcases hinv j _ hj with ⟨e1,hc⟩|⟨hji,hj2⟩
    · rcases hinv j' _ hj' with ⟨e2,hc'⟩|⟨hji',hj2'⟩
      · rw [e1,e2]
      · rw [e1] at hp
        have h1:=(hs.chunk ch hc).2 b cap y hp hy
        rw [hs.place j' hji'] at hp'
        obtain ⟨ch2,hj2',ha⟩:=happ j' ch' hj2'
        have:=hold j' ch2 b' cap' y hj2' hp' (ha _ _ _ hy')
        omega
    · rw [hs.place j hji] at hp
      obtain ⟨ch1,hj2,ha⟩:=happ j ch hj2
      rcases hinv j' _ hj' with ⟨e2,hc'⟩|⟨hji',hj2'⟩
      · rw [e2] at hp'
        have h1:=(hs.chunk ch' hc').2 b' cap' y hp' hy'
        have:=hold j ch1 b cap y hj2 hp (ha _ _ _ hy)
        omega
      · rw [hs.place j' hji'] at hp'
        obtain ⟨ch2,hj2',ha'⟩:=happ j' ch' hj2'
        exact h.heap.inj j j' ch1 ch2 b b' cap cap' y hj2 hj2' hp hp' (ha _ _ _ hy) (ha' _ _ _ hy')
  · cases dst <;> simpa [Act.put] using h.defers
  · have:=h.gl g cs hg
    refine ⟨RepV.mono hs.evo.rmono hs.evo.rkeep (fun j hj=>?_) this.1,this.2⟩
    simp only [AV.has] at hj
    rw [this.2 j] at hj
    simp at hj
  · have hsub:∀ b,Upd.owns φ upd b→Owns φ H b:=fun b ⟨x,hx,cap,hp⟩=>Owns.main (hug x hx) hp
    refine ⟨hs.evo.os,hs.evo.tape,hs.evo.output,hs.evo.size,fun b hb ho=>hs.evo.keep b hb (fun h=>ho (hsub b h)),hs.evo.rmono,hs.evo.rkeep,fun b o hr=>?_,fun b hb=>?_⟩
    · rcases hs.evo.rnew b o hr with h1|h1|h1
      · exact .inl h1
      · exact .inr (.inl h1)
      · exact .inr (.inr (hsub b h1))
    · obtain ⟨j,ch,b0,cap,hj,hp,hx⟩:=hb
      rcases hinv j _ hj with ⟨rfl,hc⟩|⟨hji,hj⟩
      · exact .inl ((hs.chunk ch hc).2 b0 cap b hp hx)
      · rw [hs.place j hji] at hp
        obtain ⟨ch',hj,ha⟩:=happ j ch hj
        exact .inr ⟨j,ch',b0,cap,hj,hp,ha _ _ _ hx⟩
def okP:AV→Prop
  | .maybe g _=>g = true
  | _=>True
theorem needs_iff {v:AV} {p:Prop} (h:needs v p):okP v∧p:=by
  cases v <;> simp_all [needs,okP]
theorem needsAll_iff {p:Prop}:∀ {vs:List AV},needsAll vs p→(∀ v∈vs,okP v)∧p
  | [],h=>⟨fun _ h=>by simp at h,h⟩
  | v :: vs,h=>by
    obtain ⟨h1,h2⟩:=needs_iff h
    obtain ⟨h3,h4⟩:=needsAll_iff h2
    exact ⟨fun u hu=>by rcases List.mem_cons.1 hu with rfl|hu;exact h1;exact h3 u hu,h4⟩
theorem RepV.un {φ:Place} {R:Prot} {w:World} {v:AV} {u:Value} (h:RepV φ R w v u) (hk:okP v):RepV φ R w v.un u:=by
  cases v <;> simp_all [AV.un,okP]
  simp only [RepV] at h
  exact h.1 trivial
theorem un_has {v:AV} (id:Nat) (hk:okP v):v.un.has id = v.has id:=by cases v <;> simp_all [AV.un,AV.has,okP]
def gd (b want:Bool):Bool:=match want with|true=>b|false=>!b
def gOf (ops:Array Oper) (ev:Operand→AV) (g:Nat × Bool):Option Bool:=
  match (ops[g.1]?).bind (·.dst) with
  | some t=>match ev (.tmp t) with
    | .bool b=>some (gd b g.2)
    | .maybe c (.bool b)=>some (c && gd b g.2)
    | _=>none
  | none=>none
theorem gOf_sound {φ:Place} {R:Prot} {w:World} {ops:Array Oper} {ev:Operand→AV} {g:Nat × Bool} {b:Bool} (h:gOf ops ev g = some b) (a:Act)
    (hr:∀ t,(ops[g.1]?).bind (·.dst) = some t→RepV φ R w (ev (.tmp t)) (a.tmps.getD t undef)) (o:Oper) (ho:o.guard = some g) :
    Region.wanted o (yielded ops a.tmps) = b:=by
  unfold gOf at h
  split at h
  · rename_i t ht
    have hv:=hr t ht
    have key:∀ x,a.tmps.getD t undef = .bool x→yielded ops a.tmps g.1 = some x:=by
      intro x hx
      unfold yielded
      rw [ht]
      simp only [Option.bind_some]
      rw [Array.getD_eq_getD_getElem?] at hx
      cases hh:a.tmps[t]? with
      | none=>simp [hh,undef] at hx
      | some y=>simp [hh] at hx;simp [hx]
    have key2:a.tmps.getD t undef = undef→yielded ops a.tmps g.1 = none:=by
      intro hx
      unfold yielded
      rw [ht]
      simp only [Option.bind_some]
      rw [Array.getD_eq_getD_getElem?] at hx
      cases hh:a.tmps[t]? with
      | none=>rfl
      | some y=>simp [hh] at hx;simp [hx,undef]
    split at h
    · rename_i x hx
      rw [hx] at hv
      simp only [RepV] at hv
      simp only [Option.some.injEq] at h
      subst h
      unfold Region.wanted
      have hk:=key x hv
      obtain ⟨j,want⟩:=g
      simp only at hk
      simp only [ho,hk]
      cases x <;> cases want <;> rfl
    · rename_i c x hx
      rw [hx] at hv
      simp only [RepV] at hv
      simp only [Option.some.injEq] at h
      subst h
      unfold Region.wanted
      cases c with
      | true=>
        have hk:=key x (hv.1 rfl)
        obtain ⟨j,want⟩:=g
        simp only at hk
        simp only [ho,hk]
        cases x <;> cases want <;> rfl
      | false=>
        have hk:=key2 (hv.2 rfl)
        obtain ⟨j,want⟩:=g
        simp only at hk
        simp only [ho,hk]
        rfl
    · simp at h
  · simp at h
theorem pick_rep {φ:Place} {R:Prot} {w:World} {c:Bool} {x y:AV} {u v:Value} (hx:c = true→RepV φ R w x u) (hy:c = false→RepV φ R w y v):RepV φ R w (AV.pick c x y) (if c = true then u else v):=by
  unfold AV.pick
  split
  · cases c <;> simp_all [RepV]
  · split
    · rename_i hk;subst hk
      cases c <;> simp_all [RepV]
    · simp [RepV]
  · cases c <;> simp_all [RepV]
  · simp [RepV]
theorem pick_has (c:Bool) (x y:AV) (id:Nat):(AV.pick c x y).has id = false:=by
  unfold AV.pick
  split
  · simp [AV.has]
  · split <;> simp [AV.has]
  · simp [AV.has]
  · simp [AV.has]
mutual
def AV.ids:AV→List Nat
  | .loc id _=>[id]
  | .own id _=>[id]
  | .eloc id _ _ _=>[id]
  | .agg cs=>AV.idsL cs
  | .tup cs=>AV.idsL cs
  | .rop cs _=>AV.idsL cs
  | .fn _ cs=>AV.idsL cs
  | .maybe _ a=>AV.ids a
  | .ex X=>X.ids
  | _=>[]
def AV.idsL:List AV→List Nat
  | []=>[]
  | a :: as=>AV.ids a ++ AV.idsL as
end
mutual
theorem AV.has_ids {id:Nat}:∀ {a:AV},a.has id = true→id∈a.ids
  | .any,h=>by simp [AV.has] at h
  | .bool _,h=>by simp [AV.has] at h
  | .int _ _,h=>by simp [AV.has] at h
  | .str _,h=>by simp [AV.has] at h
  | .list _ _,h=>by simp [AV.has] at h
  | .agg cs,h=>by simp only [AV.has] at h;simpa [AV.ids] using AV.hasAny_ids h
  | .tup cs,h=>by simp only [AV.has] at h;simpa [AV.ids] using AV.hasAny_ids h
  | .rop cs _,h=>by simp only [AV.has] at h;simpa [AV.ids] using AV.hasAny_ids h
  | .loc j _,h=>by simp only [AV.has,beq_iff_eq] at h;simp [AV.ids,h]
  | .own j _,h=>by simp only [AV.has,beq_iff_eq] at h;simp [AV.ids,h]
  | .eloc j _ _ _,h=>by simp only [AV.has,beq_iff_eq] at h;simp [AV.ids,h]
  | .nilp,h=>by simp [AV.has] at h
  | .nils,h=>by simp [AV.has] at h
  | .nilf,h=>by simp [AV.has] at h
  | .fn _ cs,h=>by simp only [AV.has] at h;simpa [AV.ids] using AV.hasAny_ids h
  | .maybe g a,h=>by simp only [AV.has,Bool.and_eq_true] at h;simpa [AV.ids] using AV.has_ids h.2
  | .ub _ _,h=>by simp [AV.has] at h
  | .ex X,h=>by simp only [AV.has] at h;simpa [AV.ids] using h
theorem AV.hasAny_ids {id:Nat}:∀ {as:List AV},AV.hasAny id as = true→id∈AV.idsL as
  | [],h=>by simp [AV.hasAny] at h
  | a :: as,h=>by
    simp only [AV.hasAny,Bool.or_eq_true] at h
    simp only [AV.idsL,List.mem_append]
    exact h.imp AV.has_ids AV.hasAny_ids
end
def keysOK:Upd→Bool
  | []=>true
  | x :: r=>!(r.any fun y=>y.1 == x.1) && keysOK r
def allIn (l:List Nat) (u:Upd):Bool:=keysOK u && l.all fun j=>u.any fun x=>x.1 == j
def Upd.old (u:Upd):Upd:=u.map fun x=>(x.1,x.2.1,none)
def CSpec (P:Program) (gl:Gl) (f:FuncId) (args:List AV) (upd:Upd) (ret:AV):Prop:=FSpec P gl f args (applyU noHeap upd.old) ret (applyU noHeap upd)
def updIds (u:Upd):List Nat:=u.flatMap fun x=>AV.idsL (newCells x.2.1 x.2.2)
def storeU (T:Tab) (lk:Heap) (t:TypeId) (a x:AV) (K:AV→Upd→Option Chunk→Prop):Prop:=
  match a,x.cells,tget T t with
  | .loc id off,some us,some e=>match lk id with
    | some (.box cs)=>match Nat.beq us.length e.size,Nat.ble (off + e.size) cs.length,us.all AV.one with
      | true,true,true=>K .any [(id,cs,some (cs.take off ++ us ++ cs.drop (off + e.size)))] none
      | _,_,_=>False
    | _=>False
  | _,_,_=>False
def opU (P:Program) (T:Tab) (gl:Gl) (lk:Heap) (ev:Operand→AV) (id:Nat) (op:Op) (K:AV→Upd→Option Chunk→Prop):Prop:=
  match op with
  | .pick c a b=>match (ev c).un with
    | .bool cb=>needs (ev c) (((cb = true→okP (ev a))∧(cb = false→okP (ev b)))∧K (AV.pick cb (ev a).un (ev b).un) [] none)
    | _=>False
  | .store t a x=>needs (ev a) (needs (ev x) (storeU T lk t (ev a).un (ev x).un K))
  | .call ⟨.value f,args,ats⟩=>needsAll ((Op.call ⟨.value f,args,ats⟩).operands.toList.map ev) (floV P T gl lk (fun x=>(ev x).un) id (.call ⟨.value f,args,ats⟩) (fun v c=>K v [] c)∨
      match (ev f).un with
      | .fn g caps=>(∃ upd ret,updOK lk upd∧CSpec P gl g (args.toList.map (fun x=>(ev x).un) ++ caps) upd ret∧allIn (ret.ids ++ updIds upd) upd = true∧K ret upd none)∨
          ∃ cs,(∀ j,AV.hasAny j cs = false)∧NSpec P gl g (args.toList.map (fun x=>(ev x).un) ++ caps) cs∧K (.loc id 0) [] (some (.box cs))
      | _=>False)
  | .call ⟨.builtin .append,⟨[s,x]⟩,⟨[ts,tx]⟩⟩=>needs (ev s) (needs (ev x) (match (ev s).un with
      | .nils=>appNilV T lk id ts tx (ev x).un (fun v c=>K v [] c)
      | _=>False))
  | op=>needsAll (op.operands.toList.map ev) (floV P T gl lk (fun x=>(ev x).un) id op (fun v c=>K v [] c))
def opG (P:Program) (T:Tab) (ops:Array Oper) (gl:Gl) (lk:Heap) (ev:Operand→AV) (id:Nat) (o:Oper) (K:AV→Upd→Option Chunk→Prop):Prop:=
  match o.guard with
  | none=>opU P T gl lk ev id o.op K
  | some g=>match gOf ops ev g with
    | some b=>∃ v upd,updOK lk upd∧upd.all (fun x=>x.2.2.isNone) = true∧allIn (updIds upd) upd = true∧(b = true→opU P T gl lk ev id o.op (fun v' u' c'=>v' = v∧u' = upd∧c' = none))∧K (.maybe b v) upd none
    | none=>False
def guardSlot (ops:Array Oper) (o:Oper) (t:Nat):Prop:=∃ g,o.guard = some g∧(ops[g.1]?).bind (·.dst) = some t
def Named (o:Oper) (ev:Operand→AV) (lk:Heap) (upd:Upd) (j:Nat):Prop:=(∃ x∈o.op.operands,From lk (ev x) j)∨(∃ x∈upd,x.1 = j)
structure OpFact (P:Program) (gl:Gl) (ops:Array Oper) (o:Oper) (ev:Operand→AV) (lk:Heap) (id:Nat) (v:AV) (upd:Upd) (c:Option Chunk):Prop where
  ok:updOK lk upd
  keys:keysOK upd = true
  run:∀ φ R (a:Act) w,(∀ x∈o.op.operands,RepV φ R w (ev x) (a.eval x))→(∀ t,guardSlot ops o t→RepV φ R w (ev (.tmp t)) (a.tmps.getD t undef))→
    (∀ x∈o.op.operands,ChOK φ R w lk (ev x))→HRel φ R w (applyU noHeap upd.old)→RB R w→GlOK gl φ R w→∀ (next:Act→World→Prop) (Q:Exit→Act→World→Prop),
    (∀ φ' R' w' u,StepU φ R w upd id c φ' R' w'→RepV φ' R' w' v u→next (a.put o.dst u) w')→
    (if Region.wanted o (yielded ops a.tmps) = true then o.wp P a w next Q∨(o.asks P a w∧LetsOut Q) else next (a.put o.dst undef) w)
  names:∀ j,v.has j = true→Named o ev lk upd j∨(j = id∧c.isSome = true)
  cnames:∀ ch j,c = some ch→ch.has j = true→Named o ev lk upd j
  unames:∀ x∈upd,∀ j,AV.hasAny j (newCells x.2.1 x.2.2) = true→Named o ev lk upd j
theorem old_get {upd:Upd} {k:Nat} {c:Chunk} (h:applyU noHeap upd.old k = some c):∃ x∈upd,x.1 = k∧c = .box x.2.1:=by
  rcases applyU_inv h with ⟨x,hx,h1,h2⟩|⟨_,h2⟩
  · obtain ⟨y,hy,rfl⟩:=List.mem_map.1 hx
    exact ⟨y,hy,h1,h2⟩
  · simp [noHeap] at h2
theorem old_mem {upd:Upd} {x:Nat × List AV × Option (List AV)} (hx:x∈upd):∃ c,applyU noHeap upd.old x.1 = some c:=by
  induction upd with
  | nil=>simp at hx
  | cons y r ih=>
    simp only [Upd.old,List.map_cons,applyU]
    by_cases e:x.1 = y.1
    · exact ⟨_,by rw [if_pos e]⟩
    · rw [if_neg e]
      rcases List.mem_cons.1 hx with rfl|hx
      · exact absurd rfl e
      · exact ih hx
theorem stepU_idle {φ:Place} {R:Prot} {w:World} {upd:Upd} {id:Nat} (hR:RB R w) (hall:upd.all (fun x=>x.2.2.isNone) = true) (lk:Heap) (hok:updOK lk upd) (h:HRel φ R w (applyU noHeap upd.old)) :
    StepU φ R w upd id none φ R w where
  evo:=⟨rfl,rfl,rfl,Nat.le_refl _,fun _ _ _=>rfl,fun _ _ h=>h,fun _ _ _=>rfl,fun _ _ h=>.inl h,fun b h=>.inr (by rcases h with h|h;exact h;simp at h)⟩
  rb:=hR
  place _ _:=rfl
  chunk ch h:=by simp at h
  upds x hx:=by
    rw [List.all_eq_true] at hall
    have h1:x.2.2 = none:=by have:=hall x hx;simpa using this
    obtain ⟨c,hc⟩:=old_mem hx
    obtain ⟨y,hy,h2,h3⟩:=old_get hc
    have h4:=hok.get x hx
    have h5:=hok.get y hy
    rw [h2,h4] at h5
    simp only [Option.some.injEq,Chunk.box.injEq] at h5
    rw [h1]
    have:=h.rel _ _ hc
    rw [h3,← h5] at this
    exact this
structure FloU (P:Program) (gl:Gl) (o:Oper) (ev:Operand→AV) (lk:Heap) (id:Nat) (v:AV) (upd:Upd) (c:Option Chunk):Prop where
  ok:updOK lk upd
  keys:keysOK upd = true
  run:∀ φ R (a:Act) w,(∀ x∈o.op.operands,RepV φ R w (ev x) (a.eval x))→
    (∀ x∈o.op.operands,ChOK φ R w lk (ev x))→HRel φ R w (applyU noHeap upd.old)→RB R w→GlOK gl φ R w→∀ (next:Act→World→Prop) (Q:Exit→Act→World→Prop),
    (∀ φ' R' w' u,StepU φ R w upd id c φ' R' w'→RepV φ' R' w' v u→next (a.put o.dst u) w')→o.wp P a w next Q
  names:∀ j,v.has j = true→Named o ev lk upd j∨(j = id∧c.isSome = true)
  cnames:∀ ch j,c = some ch→ch.has j = true→Named o ev lk upd j
  unames:∀ x∈upd,∀ j,AV.hasAny j (newCells x.2.1 x.2.2) = true→Named o ev lk upd j
def setBlk (w:World) (b:Nat) (o:Obj):World:={ heap:=w.heap.setIfInBounds b o,tape:=w.tape,drawn:=w.drawn,os:=w.os,output:=w.output }
theorem setBlk_get {w:World} {b:Nat} {o:Obj} (h:b < w.heap.size):(setBlk w b o).heap[b]? = some o:=by simp [setBlk,h]
theorem setBlk_ne {w:World} {b k:Nat} {o:Obj} (h:b≠k):(setBlk w b o).heap[k]? = w.heap[k]?:=by simp [setBlk,Array.getElem?_setIfInBounds_ne h]
theorem setBlk_cell {w:World} {b k j:Nat} {o:Obj} (h:b≠k):(setBlk w b o).cell? ⟨k,j,none⟩ = w.cell? ⟨k,j,none⟩:=by
  simp only [World.cell?,setBlk_ne h]
theorem setCell_blk {w:World} {b k:Nat} {vs:Array Value} {e:TypeId} {fr:Nat × Nat} {u:Value} (h:w.heap[b]? = some (.cells vs e fr)) :
    w.setCell ⟨b,k,none⟩ u = setBlk w b (.cells (vs.setIfInBounds k u) e fr):=by
  unfold World.setCell setBlk
  congr 1
  apply Array.ext_getElem?
  intro i
  simp only [Array.getElem?_modify,Array.getElem?_setIfInBounds]
  obtain ⟨hb,hg⟩:=Array.getElem?_eq_some_iff.1 h
  by_cases e:b = i
  · subst e
    simp [hb,hg]
  · simp [e]
theorem run_storeCells_blk {P:Program} {b off:Nat} {e:TypeId} {fr:Nat × Nat}:∀ (us:List Value) (i:Nat) (vs:Array Value) (w:World),w.heap[b]? = some (.cells vs e fr)→off + i + us.length≤vs.size→
    NoFr fr vs.size→(∀ u∈us,u.oneCell' = true)→∃ vs':Array Value,vs'.toList = vs.toList.take (off + i) ++ us ++ vs.toList.drop (off + i + us.length)∧
      (storeCells ⟨b,off,none⟩ us i).run P w = .ok () (setBlk w b (.cells vs' e fr))
  | [],i,vs,w,h,hl,hf,h1=>by
    refine ⟨vs,by simp,?_⟩
    simp only [storeCells,Sem.run_pure]
    congr 1
    obtain ⟨hb,hg⟩:=Array.getElem?_eq_some_iff.1 h
    unfold setBlk
    have:w.heap.setIfInBounds b (.cells vs e fr) = w.heap:=by
      apply Array.ext_getElem?
      intro j
      simp only [Array.getElem?_setIfInBounds]
      split
      · rename_i hbj;subst hbj;first|exact h.symm|(rw [if_pos hb,h])
      · rfl
    rw [this]
  | u :: us,i,vs,w,h,hl,hf,h1=>by
    simp only [List.length_cons] at hl
    have hlt:b < w.heap.size:=(Array.getElem?_eq_some_iff.1 h).1
    have hk:off + i < vs.size:=by omega
    have hc:w.cell? ⟨b,off + i,none⟩ = some vs[off + i]:=by simp [World.cell?,h,hk]
    have hfz:w.frozen? ⟨b,off + i,none⟩ = false:=by
      have:=hf (off + i) hk
      simp only [World.frozen?,h]
      simp only [Bool.and_eq_false_iff,decide_eq_false_iff_not]
      omega
    obtain ⟨vs',hv,hr⟩:=run_storeCells_blk (P:=P) (b:=b) (off:=off) (e:=e) (fr:=fr) us (i + 1) (vs.setIfInBounds (off + i) u) (setBlk w b (.cells (vs.setIfInBounds (off + i) u) e fr)) (setBlk_get hlt) (by simp;omega) (by simpa using hf) (fun x hx=>h1 x (List.mem_cons_of_mem _ hx))
    refine ⟨vs',?_,?_⟩
    · rw [hv]
      have hll:off + i < vs.toList.length:=by simpa using hk
      simp only [Array.toList_setIfInBounds,List.length_cons]
      rw [show off + (i + 1) = off + i + 1 by omega,show off + i + 1 + us.length = off + i + (us.length + 1) by omega]
      rw [List.take_add_one,List.take_set_of_le (Nat.le_refl _),List.getElem?_set_self hll,List.drop_set_of_lt (by omega)]
      simp
    · simp only [storeCells,Sem.run_bind,Addr.add_lit]
      rw [run_store P w _ u _ (h1 u (List.mem_cons_self ..)),hc]
      simp only [hfz,Bool.false_eq_true,if_false,Result.andThen_ok,setCell_blk h]
      rw [hr]
      congr 1
      unfold setBlk
      simp
theorem stepU_write {φ:Place} {R:Prot} {w:World} {id j:Nat} {old new:List AV} {b cap:Nat} {vs vs':Array Value} {e:TypeId} {fr:Nat × Nat} (hR:RB R w) (hp:φ j = some (b,cap))
    (hb:w.heap[b]? = some (.cells vs e fr)) (hnR:∀ o,¬ R b o) (hnf:NoFr fr vs'.size) (hnew:RepVs φ R w new vs'.toList) :
    StepU φ R w [(j,old,some new)] id none φ R (setBlk w b (.cells vs' e fr)):=by
  have hlt:b < w.heap.size:=(Array.getElem?_eq_some_iff.1 hb).1
  have hcell:∀ k o,R k o→(setBlk w b (.cells vs' e fr)).cell? ⟨k,o,none⟩ = w.cell? ⟨k,o,none⟩:=fun k o hr=>setBlk_cell (fun h=>by subst h;exact hnR o hr)
  refine ⟨⟨rfl,rfl,rfl,by simp [setBlk],fun k hk ho=>setBlk_ne (fun h=>ho ⟨_,List.mem_cons_self ..,cap,h ▸ hp⟩),fun _ _ h=>h,hcell,fun _ _ h=>.inl h,fun k h=>?_⟩,fun k o h=>by have:=hR k o h;simpa [setBlk] using this,fun _ _=>rfl,fun _ h=>by simp at h,fun x hx=>?_⟩
  · rcases h with h|h
    · exact .inr h
    · simp at h
  · simp only [List.mem_singleton] at hx
    subst hx
    exact ⟨b,cap,vs',e,fr,hp,setBlk_get hlt,RepVs.mono (fun _ _ h=>h) hcell (fun _ _=>rfl) hnew,hnR,hnf⟩
theorem allIn_keys {l:List Nat} {u:Upd} (h:allIn l u = true):keysOK u = true:=by
  unfold allIn at h
  rw [Bool.and_eq_true] at h
  exact h.1
theorem allIn_mem {l:List Nat} {u:Upd} (h:allIn l u = true) {j:Nat} (hj:j∈l):∃ x∈u,x.1 = j:=by
  unfold allIn at h
  rw [Bool.and_eq_true] at h
  have h:=h.2
  rw [List.all_eq_true] at h
  have:=h j hj
  rw [List.any_eq_true] at this
  obtain ⟨x,hx,h1⟩:=this
  exact ⟨x,hx,by simpa using h1⟩
theorem keysOK_get {H:Heap}:∀ {u:Upd},keysOK u = true→∀ x∈u,applyU H u x.1 = some (.box (newCells x.2.1 x.2.2))
  | [],_,x,hx=>by simp at hx
  | y :: r,h,x,hx=>by
    obtain ⟨j,old,n⟩:=y
    simp only [keysOK,Bool.and_eq_true,Bool.not_eq_true'] at h
    simp only [applyU]
    rcases List.mem_cons.1 hx with rfl|hx
    · rw [if_pos rfl]
    · have:¬ x.1 = j:=fun e=>by
        have h1:=h.1
        rw [List.any_eq_false] at h1
        exact h1 x hx (by simp [e])
      rw [if_neg this]
      exact keysOK_get h.2 x hx
section
variable {P:Program} {T:Tab} (hT:tabOK P T = true)
include hT
omit hT in
theorem Flo.toU {gl:Gl} {lk:Heap} {ev:Operand→AV} {id:Nat} {o:Oper} {v:AV} {c:Option Chunk} (h:Flo P gl o ev lk id v c):FloU P gl o ev lk id v [] c where
  ok:=trivial
  keys:=rfl
  run φ R a w hr hc _ hR hgl next Q hnext:=h.run φ R a w hr hc hR hgl next Q (fun φ' R' w' u hs hu=>hnext φ' R' w' u hs.toU hu)
  names j hj:=(h.names j hj).imp (fun h=>.inl h) (fun h=>h)
  cnames cs j hc hj:=.inl (h.cnames cs j hc hj)
  unames x hx:=by simp at hx
theorem store_sound {gl:Gl} {lk:Heap} {ev:Operand→AV} {id:Nat} {K:AV→Upd→Option Chunk→Prop} {t:TypeId} {x y:Operand} (h:storeU T lk t (ev x) (ev y) K) (o:Oper) (ho:o.op = .store t x y) :
    ∃ v upd c,K v upd c∧FloU P gl o ev lk id v upd c:=by
  unfold storeU at h
  split at h
  · rename_i j off us e ha hx he
    split at h
    · rename_i cs hlk
      split at h
      · rename_i h1 h2 h3
        have h1:=Nat.eq_of_beq_eq_true h1
        have h2:=Nat.le_of_ble_eq_true h2
        refine ⟨_,_,_,h,⟨⟨hlk,trivial⟩,rfl,fun φ R a w hr hc hh hR _ next Q hnext=>?_,fun j hj=>by simp [AV.has] at hj,fun cs j h=>by simp at h,fun z hz k hk=>?_⟩⟩
        · have hrx:=hr x (by simp [ho,Op.operands])
          have hry:=hr y (by simp [ho,Op.operands])
          rw [ha] at hrx
          simp only [RepV] at hrx
          obtain ⟨b,cap,hp,hax⟩:=hrx
          have hcr:=hc x (by simp [ho,Op.operands]) j _ (by rw [ha];simp [AV.has]) hlk
          obtain ⟨b',cap',vs,te,fr,hp',hb,hvs,hnR,hnf⟩:=hcr
          rw [hp] at hp'
          simp only [Option.some.injEq,Prod.mk.injEq] at hp'
          obtain ⟨rfl,rfl⟩:=hp'
          have hyc:=AV.cells_rep hx hry
          have hyl:=hyc.length
          have hvl:=hvs.length
          simp only [Array.length_toList] at hyl hvl
          obtain ⟨vs',hv',hrun⟩:=run_storeCells_blk (P:=P) (b:=b) (off:=off) (e:=te) (fr:=fr) (a.eval y).cells.toList 0 vs w hb (by simp;omega) hnf (hyc.one h3)
          have hex:(execOp a.eval o).run P w = .ok .skip (setBlk w b (.cells vs' te fr)):=by
            simp only [execOp,ho,hax,Instr.storeAt,Instr.sureAddr,storeVar,Sem.run_bind,Sem.run_pure,Result.andThen_ok,run_sizeOf_tab hT he]
            rw [if_neg (by omega)]
            rw [hrun]
            rfl
          unfold Oper.wp
          rw [hex]
          have hsz:vs'.size = vs.size:=by
            have:=congrArg List.length hv'
            simp at this
            omega
          refine hnext φ R _ undef (stepU_write hR hp hb hnR (by rw [hsz];exact hnf) ?_) (by simp [RepV])
          rw [hv']
          simp only [Nat.add_zero,Array.length_toList]
          refine RepVs.append (RepVs.append (RepVs.take _ hvs) hyc) ?_
          rw [hyl,h1]
          exact RepVs.drop _ hvs
        · simp only [List.mem_singleton] at hz
          subst hz
          simp only [newCells,hasAny_append,Bool.or_eq_true] at hk
          rcases hk with (hk|hk)|hk
          · exact .inl ⟨x,by simp [ho,Op.operands],.inr ⟨j,cs,by rw [ha];simp [AV.has],hlk,hasAny_take _ _ hk⟩⟩
          · rw [AV.cells_has hx] at hk
            exact .inl ⟨y,by simp [ho,Op.operands],.inl hk⟩
          · exact .inl ⟨x,by simp [ho,Op.operands],.inr ⟨j,cs,by rw [ha];simp [AV.has],hlk,hasAny_drop _ _ hk⟩⟩
      · exact h.elim
    · exact h.elim
  · exact h.elim
omit hT in
theorem call_sound {gl:Gl} {lk:Heap} {ev:Operand→AV} {id:Nat} {f:Operand} {args:Array Operand} {ats:Array TypeId} {g:FuncId} {caps:List AV} {ret:AV} {upd:Upd}
    (hf:ev f = .fn g caps) (hok:updOK lk upd) (hs:CSpec P gl g (args.toList.map ev ++ caps) upd ret) (hin:allIn (ret.ids ++ updIds upd) upd = true) (o:Oper) (ho:o.op = .call ⟨.value f,args,ats⟩) :
    FloU P gl o ev lk id ret upd none where
  ok:=hok
  keys:=allIn_keys hin
  run φ R a w hr hc hh hR hgl next Q hnext:=by
    obtain ⟨⟨fn,hfn,hname,hbody⟩,hs⟩:=hs
    have hfr:=hr f (by simp [ho,Op.operands,Call.operands])
    rw [hf] at hfr
    simp only [RepV] at hfr
    obtain ⟨cv,hfv,hcaps⟩:=hfr
    have hargs:RepVs φ R w (args.toList.map ev ++ caps) ((args.map a.eval).toList ++ cv.toList):=by
      refine RepVs.append ?_ hcaps
      rw [Array.toList_map]
      exact repVs_map _ _ _ (fun x hx=>hr x (by simp [ho,Op.operands,Call.operands];exact .inr (by simpa using hx)))
    have hcall:=hs φ R w _ hh hR hgl hargs
    have hrun:(execOp a.eval o).run P w = .ok (.enter g ((args.map a.eval).toList ++ cv.toList).toArray) w:=by
      simp only [execOp,ho,resolve,hfv,Deferred.ofValue,invoke,callFunc,Sem.run_bind,Sem.run_pure,Result.andThen_ok,run_program,hfn,hname,hbody,Bool.false_eq_true,if_false]
      congr 2
      apply Array.ext'
      simp
    unfold Oper.wp
    rw [hrun,Oper.upon_enter]
    refine hcall.mono ?_
    rintro e w' ⟨v,φ',R',rfl,hv,hh',hrb,hevo,hst⟩
    let φ'':Place:=fun j=>match applyU noHeap upd.old j with|some _=>φ' j|none=>φ j
    have hkeys:∀ x∈upd,φ'' x.1 = φ' x.1:=fun x hx=>by
      obtain ⟨c,hc⟩:=old_mem hx
      simp only [φ'',hc]
    have hsame:∀ j,φ'' j = φ j:=fun j=>by
      simp only [φ'']
      split
      · rename_i c hc
        obtain ⟨x,hx,rfl,rfl⟩:=old_get hc
        exact (hst _ _ hc rfl).1
      · rfl
    have hφ:∀ x∈upd,φ' x.1 = φ x.1:=fun x hx=>by rw [← hkeys x hx,hsame]
    have hown1:∀ b,Owns φ (applyU noHeap upd.old) b→Upd.owns φ upd b:=by
      rintro b ⟨j,c,b0,cap,hj,hp,hat⟩
      obtain ⟨x,hx,rfl,rfl⟩:=old_get hj
      cases hat
      exact ⟨x,hx,cap,hp⟩
    have hown2:∀ b,Upd.owns φ upd b→Owns φ (applyU noHeap upd.old) b:=by
      rintro b ⟨x,hx,cap,hp⟩
      obtain ⟨c,hc⟩:=old_mem hx
      exact Owns.main hc hp
    have hidr:∀ j,j∈ret.ids ++ updIds upd→φ j = φ' j:=fun j hj=>by
      obtain ⟨x,hx,rfl⟩:=allIn_mem hin hj
      exact (hφ x hx).symm
    refine hnext φ R' w' v ⟨⟨hevo.os,hevo.tape,hevo.output,hevo.size,fun b hb ho=>hevo.keep b hb (fun h=>ho (hown1 b h)),hevo.rmono,hevo.rkeep,fun b o' h=>?_,fun b h=>?_⟩,hrb,fun _ _=>rfl,fun _ h=>by simp at h,fun x hx=>?_⟩ ?_
    · rcases hevo.rnew b o' h with h|h|h
      · exact .inl h
      · exact .inr (.inl h)
      · exact .inr (.inr (hown1 b h))
    · rcases h with h|h
      · exact .inr h
      · simp at h
    · have hk:keysOK upd = true:=allIn_keys hin
      have hrel:=hh'.rel x.1 _ (keysOK_get hk x hx)
      obtain ⟨b,cap,vs,e,fr,h1,h2,h3,h4,h5⟩:=hrel
      exact ⟨b,cap,vs,e,fr,by rw [← hφ x hx];exact h1,h2,RepVs.mono (fun _ _ h=>h) (fun _ _ _=>rfl) (fun j hj=>hidr j (List.mem_append_right _ (List.mem_flatMap.2 ⟨x,hx,AV.hasAny_ids hj⟩))) h3,h4,h5⟩
    · exact RepV.mono (fun _ _ h=>h) (fun _ _ _=>rfl) (fun j hj=>hidr j (List.mem_append_left _ (AV.has_ids hj))) hv
  names j hj:=.inl (.inr (allIn_mem hin (List.mem_append_left _ (AV.has_ids hj))))
  cnames cs j h:=by simp at h
  unames x hx j hj:=.inr (allIn_mem hin (List.mem_append_right _ (List.mem_flatMap.2 ⟨x,hx,AV.hasAny_ids hj⟩)))
theorem opU_sound {gl:Gl} {lk:Heap} {ev:Operand→AV} {id:Nat} {K:AV→Upd→Option Chunk→Prop} (o:Oper) (h:opU P T gl lk ev id o.op K) (hid:∀ x∈o.op.operands,(ev x).has id = false) :
    ∃ v upd c,K v upd c∧FloU P gl o ev lk id v upd c:=by
  have lift:∀ (v:AV) (upd:Upd) (c:Option Chunk),(∀ x∈o.op.operands,okP (ev x))→FloU P gl o (fun x=>(ev x).un) lk id v upd c→FloU P gl o ev lk id v upd c:=by
    intro v upd c hok hf
    have hN:∀ j,Named o (fun x=>(ev x).un) lk upd j→Named o ev lk upd j:=by
      rintro j (⟨x,hx,h1|⟨k,cs,h1,h2⟩⟩|h)
      · exact .inl ⟨x,hx,.inl (by rw [un_has _ (hok x hx)] at h1;exact h1)⟩
      · exact .inl ⟨x,hx,.inr ⟨k,cs,by rw [un_has _ (hok x hx)] at h1;exact h1,h2⟩⟩
      · exact .inr h
    exact ⟨hf.ok,hf.keys,fun φ R a w hr hc hh hR hgl next Q hnext=>hf.run φ R a w (fun x hx=>(hr x hx).un (hok x hx)) (fun x hx id' c' h1 h2=>hc x hx id' c' (by rw [un_has _ (hok x hx)] at h1;exact h1) h2) hh hR hgl next Q hnext,
      fun j hj=>(hf.names j hj).imp (hN j) (fun h=>h),fun cs j hc hj=>hN j (hf.cnames cs j hc hj),fun x hx j hj=>hN j (hf.unames x hx j hj)⟩
  have flo:∀ (p:Prop),needsAll (o.op.operands.toList.map ev) p→(∀ x∈o.op.operands,okP (ev x))∧p:=fun p h=>by
    obtain ⟨h1,h2⟩:=needsAll_iff h
    exact ⟨fun x hx=>h1 _ (List.mem_map.2 ⟨x,by simpa using hx,rfl⟩),h2⟩
  unfold opU at h
  split at h
  · rename_i c a b ho
    split at h
    · rename_i cb hcb
      obtain ⟨h1,⟨h2,h3⟩,h⟩:=needs_iff h
      refine ⟨_,_,_,h,⟨trivial,rfl,fun φ R act w hr hc _ hR _ next Q hnext=>?_,fun j hj=>by rw [pick_has] at hj;simp at hj,fun cs j h=>by simp at h,fun x hx=>by simp at hx⟩⟩
      have hc1:=(hr c (by simp [ho,Op.operands])).un h1
      have ha:=hr a (by simp [ho,Op.operands])
      have hb:=hr b (by simp [ho,Op.operands])
      rw [hcb] at hc1
      simp only [RepV] at hc1
      unfold Oper.wp
      have hrun:(execOp act.eval o).run P w = .ok (.value (if cb = true then act.eval a else act.eval b)) w:=by
        simp [execOp,ho,hc1,asBool]
      rw [hrun]
      exact hnext φ R w _ (StepTo.refl hR).toU (pick_rep (fun h=>ha.un (h2 h)) (fun h=>hb.un (h3 h)))
    · exact h.elim
  · rename_i t x y ho
    obtain ⟨h1,h⟩:=needs_iff h
    obtain ⟨h2,h⟩:=needs_iff h
    obtain ⟨v,upd,c,hk,hf⟩:=store_sound (id:=id) hT (ev:=fun x=>(ev x).un) h o ho
    exact ⟨v,upd,c,hk,lift v upd c (fun z hz=>by
      rw [ho] at hz
      simp [Op.operands] at hz
      rcases hz with rfl|rfl
      · exact h1
      · exact h2) hf⟩
  · rename_i f args ats ho
    rw [← ho] at h
    obtain ⟨hok,h⟩:=flo _ h
    rcases h with h|h
    · obtain ⟨v,c,hk,hf⟩:=floV_sound hT h (fun x hx=>by rw [un_has _ (hok x hx)];exact hid x hx) o rfl
      exact ⟨v,[],c,hk,lift v [] c hok hf.toU⟩
    · split at h
      · rename_i g caps hf
        rcases h with ⟨upd,ret,h1,h2,h3,h4⟩|⟨cs,h1,h2,h3⟩
        · exact ⟨_,_,_,h4,lift _ _ _ hok (call_sound (ev:=fun x=>(ev x).un) hf h1 h2 h3 o ho)⟩
        · exact ⟨_,_,_,h3,lift _ _ _ hok (flo_callNew hT (ev:=fun x=>(ev x).un) hf h1 h2 o ho).toU⟩
      · exact h.elim
  · rename_i s x ts tx ho
    obtain ⟨h1,h⟩:=needs_iff h
    obtain ⟨h2,h⟩:=needs_iff h
    split at h
    · rename_i hs
      obtain ⟨v,c,hk,hf⟩:=appNil_sound (gl:=gl) hT (ev:=fun x=>(ev x).un) hs h o ho
      exact ⟨v,[],c,hk,lift v [] c (fun z hz=>by
        rw [ho] at hz
        simp [Op.operands,Call.operands] at hz
        rcases hz with rfl|rfl
        · exact h1
        · exact h2) hf.toU⟩
    · exact h.elim
  · obtain ⟨hok,h⟩:=flo _ h
    obtain ⟨v,c,hk,hf⟩:=floV_sound hT h (fun x hx=>by rw [un_has _ (hok x hx)];exact hid x hx) o rfl
    exact ⟨v,[],c,hk,lift v [] c hok hf.toU⟩
theorem opG_sound {gl:Gl} {ops:Array Oper} {lk:Heap} {ev:Operand→AV} {id:Nat} {K:AV→Upd→Option Chunk→Prop} (o:Oper) (h:opG P T ops gl lk ev id o K) (hid:∀ x∈o.op.operands,(ev x).has id = false) :
    ∃ v upd c,K v upd c∧OpFact P gl ops o ev lk id v upd c:=by
  unfold opG at h
  split at h
  · rename_i hg
    obtain ⟨v,upd,c,hk,hf⟩:=opU_sound hT o h hid
    refine ⟨v,upd,c,hk,⟨hf.ok,hf.keys,fun φ R a w hr _ hc hh hR hgl next Q hnext=>?_,hf.names,hf.cnames,hf.unames⟩⟩
    have:Region.wanted o (yielded ops a.tmps) = true:=by simp [Region.wanted,hg]
    rw [if_pos this]
    exact .inl (hf.run φ R a w hr hc hh hR hgl next Q hnext)
  · rename_i g hg
    split at h
    · rename_i b hb
      obtain ⟨v,upd,hok,hro,hin,h1,h2⟩:=h
      cases b with
      | true=>
        obtain ⟨v',upd',c',⟨rfl,rfl,rfl⟩,hf⟩:=opU_sound hT o (h1 rfl) hid
        refine ⟨_,_,_,h2,⟨hok,allIn_keys hin,fun φ R a w hr hgs hc hh hR hgl next Q hnext=>?_,fun j hj=>hf.names j (by simpa [AV.has] using hj),fun cs j h=>by simp at h,hf.unames⟩⟩
        rw [gOf_sound hb a (fun t ht=>hgs t ⟨g,hg,ht⟩) o hg]
        rw [if_pos rfl]
        exact .inl (hf.run φ R a w hr hc hh hR hgl next Q (fun φ' R' w' u hs hu=>hnext φ' R' w' u hs (by unfold RepV;exact ⟨fun _=>hu,fun h=>by simp at h⟩)))
      | false=>
        refine ⟨_,_,_,h2,⟨hok,allIn_keys hin,fun φ R a w hr hgs hc hh hR hgl next Q hnext=>?_,fun j hj=>by simp [AV.has] at hj,fun cs j h=>by simp at h,fun x hx j hj=>.inr (allIn_mem hin (List.mem_flatMap.2 ⟨x,hx,AV.hasAny_ids hj⟩))⟩⟩
        rw [gOf_sound hb a (fun t ht=>hgs t ⟨g,hg,ht⟩) o hg]
        rw [if_neg (by simp)]
        exact hnext φ R w undef (stepU_idle hR hro lk hok hh) (by unfold RepV;exact ⟨fun h=>by simp at h,fun _=>rfl⟩)
    · exact h.elim
end
end Go.Fw
namespace Go.Fw
def stElV (T:Tab) (st:St) (dst:Option Nat) (t:TypeId) (id sz i off:Nat) (y:AV) (K:St→Prop):Prop:=
  match y.cells,tget T t,lookup id st.heap,dst with
  | some us,some e,some (.arr ty xs),none=>match Nat.beq us.length e.size,Nat.beq sz ty.size,Nat.ble (off + e.size) ty.size,us.all AV.one with
    | true,true,true,true=>i < xs.length∧∃ y',assemble ty ((explode ty (xs.getD i ty.dflt)).take off ++ us ++ (explode ty (xs.getD i ty.dflt)).drop (off + e.size)) = some (y',[])∧
        K { st with next:=st.next + 1,heap:=(id,.arr ty (xs.set i y')) :: st.heap }
    | _,_,_,_=>False
  | _,_,_,_=>False
theorem elem_write {α:Type} (l us:List α) (i j s o:Nat) (ho:o + us.length≤s) (hl:(i + 1) * s≤l.length) (hj:(j + 1) * s≤l.length) :
    (((l.take (i * s + o) ++ us ++ l.drop (i * s + o + us.length)).drop (j * s)).take s) =
      if j = i then ((l.drop (i * s)).take s).take o ++ us ++ ((l.drop (i * s)).take s).drop (o + us.length) else (l.drop (j * s)).take s:=by
  have e1:(i + 1) * s = i * s + s:=by rw [Nat.add_mul,Nat.one_mul]
  have e2:(j + 1) * s = j * s + s:=by rw [Nat.add_mul,Nat.one_mul]
  have e3:j < i→(j + 1) * s≤i * s:=fun h=>Nat.mul_le_mul_right _ h
  have e4:i < j→(i + 1) * s≤j * s:=fun h=>Nat.mul_le_mul_right _ h
  rw [e1] at hl
  rw [e2] at hj
  apply List.ext_getElem?
  intro k
  by_cases hji:j = i
  · subst hji
    rw [if_pos rfl]
    simp only [List.getElem?_take,List.getElem?_drop,List.getElem?_append,List.length_take,List.length_drop,List.length_append]
    by_cases hk:k < s
    · rw [if_pos hk]
      by_cases h1:k < o
      · rw [if_pos (by omega),if_pos (by omega),if_pos (by omega),if_pos (by omega),if_pos (by omega),if_pos (by omega)]
        rw [if_pos hk]
      · by_cases h2:k < o + us.length
        · rw [if_pos (by omega),if_neg (by omega),if_pos (by omega),if_neg (by omega)]
          congr 1;omega
        · rw [if_neg (by omega),if_neg (by omega)]
          rw [if_pos (by omega)]
          congr 1;omega
    · rw [if_neg hk]
      rw [if_neg (by omega),if_neg (by omega)]
  · rw [if_neg hji]
    have hne:j * s + s≤i * s∨i * s + s≤j * s:=by
      rcases Nat.lt_or_ge j i with h|h
      · have:=e3 h;omega
      · have:=e4 (by omega);omega
    simp only [List.getElem?_take,List.getElem?_drop,List.getElem?_append,List.length_take,List.length_append]
    by_cases hk:k < s
    · rw [if_pos hk,if_pos hk]
      rcases hne with h|h
      · rw [if_pos (by omega),if_pos (by omega),if_pos (by omega)]
      · rw [if_neg (by omega)]
        congr 1;omega
    · rw [if_neg hk,if_neg hk]
section
variable {P:Program} {T:Tab} (hT:tabOK P T = true)
include hT
theorem stEl_sound {ops:Array Oper} {st:St} {id sz i off:Nat} {t:TypeId} {x y:Operand} {K:St→Prop} (o:Oper) (ho:o.op = .store t x y) (hg:o.guard = none)
    (hxv:st.ev x = .eloc id sz i off) (h:stElV T st o.dst t id sz i off (st.ev y) K) {R:Prot} {φ:Place} {a:Act} {w:World} (hs:Sat R φ st a w)
    {next:Act→World→Prop} {Q:Exit→Act→World→Prop} (hnext:∀ R' φ' a' w' st',K st'→Sat R' φ' st' a' w'→Ext st R φ w st' R' φ' w'→next a' w') :
    (if Region.wanted o (yielded ops a.tmps) = true then o.wp P a w next Q∨(o.asks P a w∧LetsOut Q) else next (a.put o.dst undef) w):=by
  have hw:Region.wanted o (yielded ops a.tmps) = true:=by simp [Region.wanted,hg]
  rw [if_pos hw]
  left
  unfold stElV at h
  split at h
  · rename_i us e ty xs hyc he hlk hdst
    split at h
    · rename_i h1 h2 h3 h4
      have h1:=Nat.eq_of_beq_eq_true h1
      have h2:=Nat.eq_of_beq_eq_true h2
      have h3:=Nat.le_of_ble_eq_true h3
      obtain ⟨hi,y',hasm,hK⟩:=h
      have hlk':st.lk id = some (.arr ty xs):=hlk
      have hrx:=hs.s.ev x
      have hxv':evF st.get st.gl x = .eloc id sz i off:=hxv
      rw [hxv'] at hrx
      simp only [RepV] at hrx
      obtain ⟨b,cap,hφ,hax⟩:=hrx
      have hry:=hs.s.ev y
      have hcs:=hs.s.heap.rel id _ hlk'
      simp only [ChunkRel] at hcs
      rcases hcs with ⟨hn,_⟩|⟨b',cap',vs,te,fr,hφ',hb,hsz,hle,hel,hnR,hnf⟩
      · rw [hφ] at hn;cases hn
      rw [hφ] at hφ'
      simp only [Option.some.injEq,Prod.mk.injEq] at hφ'
      obtain ⟨rfl,rfl⟩:=hφ'
      have hyr:RepVs φ R w us (a.eval y).cells.toList:=AV.cells_rep hyc hry
      have hyl:=hyr.length
      have hcap:(i + 1) * ty.size≤cap * ty.size:=Nat.mul_le_mul_right _ (by omega)
      have hexp:(i + 1) * ty.size = i * ty.size + ty.size:=by rw [Nat.add_mul,Nat.one_mul]
      have hlt:b < w.heap.size:=(Array.getElem?_eq_some_iff.1 hb).1
      obtain ⟨vs',hv',hrun⟩:=run_storeCells_blk (P:=P) (b:=b) (off:=i * sz + off) (e:=te) (fr:=fr) (a.eval y).cells.toList 0 vs w hb (by rw [hsz,h2];omega) hnf (hyr.one h4)
      have hl:(a.eval y).cells.toList.length = e.size:=by omega
      have hex:(execOp a.eval o).run P w = .ok .skip (setBlk w b (.cells vs' te fr)):=by
        simp only [execOp,ho,hax,Instr.storeAt,Instr.sureAddr,storeVar,Sem.run_bind,Sem.run_pure,Result.andThen_ok,run_sizeOf_tab hT he]
        rw [if_neg (by simp only [Array.length_toList] at hl;omega)]
        rw [hrun]
        rfl
      unfold Oper.wp
      rw [hex]
      have hcell:∀ k o',R k o'→(setBlk w b (.cells vs' te fr)).cell? ⟨k,o',none⟩ = w.cell? ⟨k,o',none⟩:=fun k o' hr=>setBlk_cell (fun h=>by subst h;exact hnR o' hr)
      have hvl:vs'.size = vs.size:=by
        have:=congrArg List.length hv'
        simp only [List.length_append,List.length_take,List.length_drop,Array.length_toList,hl] at this
        rw [hsz] at this ⊢
        rw [h2] at this
        omega
      have hlk2:∀ k,lookup k ((id,Chunk.arr ty (xs.set i y')) :: st.heap) = if id = k then some (.arr ty (xs.set i y')) else st.lk k:=fun k=>lookup_cons k id _ _
      have hex1:∀ j,(∃ c,st.lk j = some c)→∃ c,lookup j ((id,Chunk.arr ty (xs.set i y')) :: st.heap) = some c:=fun j ⟨c,hc⟩=>by
        rw [hlk2];split
        · exact ⟨_,rfl⟩
        · exact ⟨c,hc⟩
      have hinv:∀ j c,lookup j ((id,Chunk.arr ty (xs.set i y')) :: st.heap) = some c→(j = id∧c = .arr ty (xs.set i y'))∨(j≠id∧st.lk j = some c):=fun j c hj=>by
        rw [hlk2] at hj
        split at hj
        · rename_i e';simp only [Option.some.injEq] at hj;exact .inl ⟨e'.symm,hj.symm⟩
        · rename_i e';exact .inr ⟨fun h=>e' h.symm,hj⟩
      have hsome:∀ j c,lookup j ((id,Chunk.arr ty (xs.set i y')) :: st.heap) = some c→∃ c',st.lk j = some c'∧∀ b cap x,c.at b cap x→c'.at b cap x:=fun j c hj=>by
        rcases hinv j c hj with ⟨rfl,rfl⟩|⟨_,h⟩
        · exact ⟨_,hlk',fun _ _ _ h=>h⟩
        · exact ⟨c,h,fun _ _ _ h=>h⟩
      have hel2:∀ (j:Nat) (hj:j < (xs.set i y').length),Rep (setBlk w b (.cells vs' te fr)) R ty (xs.set i y')[j] ((vs'.toList.drop (j * ty.size)).take ty.size):=by
        intro j hj
        have hj0:j < xs.length:=by rw [List.length_set] at hj;exact hj
        have hjc:(j + 1) * ty.size≤cap * ty.size:=Nat.mul_le_mul_right _ (by omega)
        have hw1:=elem_write vs.toList (a.eval y).cells.toList i j ty.size off (by rw [hl];exact h3) (by simp only [Array.length_toList,hsz];omega) (by simp only [Array.length_toList,hsz];omega)
        have hv2:vs'.toList = vs.toList.take (i * ty.size + off) ++ (a.eval y).cells.toList ++ vs.toList.drop (i * ty.size + off + (a.eval y).cells.toList.length):=by
          rw [hv',h2];simp only [Nat.add_zero]
        rw [hv2,hw1]
        by_cases hji:j = i
        · subst hji
          rw [if_pos rfl]
          have hold:=hel j hi
          have hxg:xs.getD j ty.dflt = xs[j]:=by simp [List.getD,hi]
          rw [hxg] at hasm
          have hrold:RepVs φ R w (explode ty xs[j]) ((vs.toList.drop (j * ty.size)).take ty.size):=hold.explode
          have hrnew:RepVs φ R w ((explode ty xs[j]).take off ++ us ++ (explode ty xs[j]).drop (off + e.size)) (((vs.toList.drop (j * ty.size)).take ty.size).take off ++ (a.eval y).cells.toList ++ ((vs.toList.drop (j * ty.size)).take ty.size).drop (off + (a.eval y).cells.toList.length)):=by
            refine RepVs.append (RepVs.append (RepVs.take _ hrold) hyr) ?_
            rw [hl]
            exact RepVs.drop _ hrold
          obtain ⟨as,ws,e1,e2,e3⟩:=assemble_rep hasm hrnew
          simp only [RepVs] at e3
          subst e3
          rw [List.append_nil] at e1
          rw [e1]
          have:(xs.set j y')[j] = y':=by simp
          rw [this]
          exact Rep.mono (fun _ _ h=>h) hcell e2
        · rw [if_neg hji]
          have:(xs.set i y')[j] = xs[j]:=by rw [List.getElem_set_ne (fun h=>hji h.symm)]
          rw [this]
          exact Rep.mono (fun _ _ h=>h) hcell (hel j hj0)
      have hoth:∀ j c,j≠id→st.lk j = some c→ChunkRel φ R (setBlk w b (.cells vs' te fr)) j c:=fun j c hne hj=>
        (hs.s.heap.rel j c hj).mono rfl (fun _ _=>rfl) (fun _ _ h=>h) hcell (fun b2 cap2 x2 hp2 hx2 _=>⟨setBlk_ne (fun h=>hne (hs.s.heap.inj j id c _ b2 b cap2 cap x2 hj hlk' hp2 hφ hx2 (show x2 = b from h.symm))),fun _ h=>h⟩)
      refine hnext R φ _ (setBlk w b (.cells vs' te fr)) _ hK ⟨⟨fun t=>?_,fun t j hj=>hex1 j (hs.s.named t j hj),fun j cs k hj hk=>?_,fun j c hj=>?_,?_,⟨fun j c hj=>?_,fun j k c d b1 b2 c1 c2 x hj hk hp hp' hx hx'=>?_⟩,?_,?_,fun g cs hg=>?_⟩,?_⟩
        ⟨⟨rfl,rfl,rfl,by simp [setBlk],fun k hk hno=>setBlk_ne (fun h=>hno (h ▸ Owns.main hlk' hφ)),fun _ _ h=>h,hcell,fun _ _ h=>.inl h,fun k ⟨j,c,b2,cp,hj,hp,hx⟩=>?_⟩,fun _ _=>rfl,rfl,rfl⟩
      · rw [hdst]
        exact RepV.mono (fun _ _ h=>h) hcell (fun _ _=>rfl) (hs.s.env t)
      · rcases hinv j _ hj with ⟨_,hc⟩|⟨_,hc⟩
        · subst hc;simp [Chunk.has] at hk
        · exact hex1 k (hs.s.hnamed j cs k hc hk)
      · obtain ⟨c',hc',_⟩:=hsome j c hj
        have:=hs.s.hnext j c' hc'
        show j < st.next + 1
        omega
      · rw [hdst];exact hs.s.sz
      · rcases hinv j c hj with ⟨rfl,rfl⟩|⟨hne,hc⟩
        · exact .inr ⟨b,cap,vs',te,fr,hφ,setBlk_get hlt,by rw [hvl,hsz],by rw [List.length_set];exact hle,hel2,hnR,by rw [hvl];exact hnf⟩
        · exact hoth j c hne hc
      · obtain ⟨c',hc',ha⟩:=hsome j c hj
        obtain ⟨d',hd',ha'⟩:=hsome k d hk
        exact hs.s.heap.inj j k c' d' b1 b2 c1 c2 x hc' hd' hp hp' (ha _ _ _ hx) (ha' _ _ _ hx')
      · intro k o' h
        have:=hs.s.rlt k o' h
        simpa [setBlk] using this
      · rw [hdst];exact hs.s.defers
      · have:=hs.s.gl g cs hg
        exact ⟨RepV.mono (fun _ _ h=>h) hcell (fun _ _=>rfl) this.1,this.2⟩
      · have:=hs.fx
        show st.fix≤st.next + 1
        omega
      · obtain ⟨c',hc',ha⟩:=hsome j c hj
        exact .inr ⟨j,c',b2,cp,hc',hp,ha _ _ _ hx⟩
    · exact h.elim
  · exact h.elim
end
end Go.Fw
namespace Go.Fw
def applyW (h:List (Nat × Chunk)):Upd→List (Nat × Chunk)
  | []=>h
  | (j,_,some n) :: r=>(j,.box n) :: applyW h r
  | (_,_,none) :: r=>applyW h r
def St.step (st:St) (dst:Option Nat) (v:AV) (upd:Upd) (c:Option Chunk):St:=
  { n:=st.n,fix:=st.fix,next:=st.next + 1,env:=(match dst with|some d=>(d,v) :: st.env|none=>st.env),
    heap:=(match c with|some ch=>(st.next,ch) :: applyW st.heap upd|none=>applyW st.heap upd),gl:=st.gl }
theorem keys_tail {x:Nat × List AV × Option (List AV)} {r:Upd} (h:keysOK (x :: r) = true):(∀ y∈r,y.1≠x.1)∧keysOK r = true:=by
  simp only [keysOK,Bool.and_eq_true,Bool.not_eq_true'] at h
  refine ⟨fun y hy e=>?_,h.2⟩
  have:=h.1
  rw [List.any_eq_false] at this
  exact this y hy (by simp [e])
theorem lookup_applyW {h:List (Nat × Chunk)}:∀ {u:Upd},keysOK u = true→updOK (fun k=>lookup k h) u→∀ k,lookup k (applyW h u) = applyU (fun k=>lookup k h) u k
  | [],_,_,k=>rfl
  | (j,old,some n) :: r,hk,hu,k=>by
    obtain ⟨h1,h2⟩:=keys_tail hk
    simp only [applyW,applyU,lookup_cons,lookup_applyW h2 hu.2 k,newCells]
    by_cases e:j = k
    · rw [if_pos e,if_pos e.symm]
    · rw [if_neg e,if_neg (fun h=>e h.symm)]
  | (j,old,none) :: r,hk,hu,k=>by
    obtain ⟨h1,h2⟩:=keys_tail hk
    simp only [applyW,applyU,lookup_applyW h2 hu.2 k,newCells]
    by_cases e:k = j
    · rw [if_pos e,e,applyU_none (fun x hx=>h1 x hx)]
      exact hu.1
    · rw [if_neg e]
theorem step_get (st:St) (dst:Option Nat) (v:AV) (upd:Upd) (c:Option Chunk):(st.step dst v upd c).get = setE st.get dst v:=by
  funext t
  cases dst with
  | none=>simp [St.step,St.get,setE]
  | some d=>
    simp only [St.step,St.get,setE,lookup_cons,Option.some.injEq]
    by_cases h:d = t <;> simp [h]
theorem step_lk (st:St) (dst:Option Nat) (v:AV) (upd:Upd) (c:Option Chunk) (hk:keysOK upd = true) (hu:updOK st.lk upd) :
    (st.step dst v upd c).lk = addC (applyU st.lk upd) st.next c:=by
  funext k
  cases c with
  | none=>
    simp only [St.lk,St.step,addC,lookup_applyW hk hu k]
    simp
  | some ch=>
    simp only [St.lk,St.step,addC,lookup_cons,lookup_applyW hk hu k]
    by_cases e:st.next = k
    · rw [if_pos e,if_pos e.symm]
    · rw [if_neg e,if_neg (fun h=>e h.symm)]
theorem named_ex {R:Prot} {φ:Place} {n next:Nat} {E:Nat→AV} {H:Heap} {gl:Gl} {a:Act} {w:World} (h:SatF R φ n next E H gl a w) {o:Oper} {upd:Upd} (hu:updOK H upd) {j:Nat}
    (hj:Named o (evF E gl) H upd j):∃ ch,H j = some ch:=by
  rcases hj with ⟨x,hx,h1|⟨k,cs,_,h2,h3⟩⟩|⟨x,hx,rfl⟩
  · exact h.ev_named x j h1
  · exact h.hnamed k _ j h2 h3
  · exact ⟨_,hu.get x hx⟩
theorem hrel_old {φ:Place} {R:Prot} {w:World} {H:Heap} {upd:Upd} (hu:updOK H upd) (h:HRel φ R w H):HRel φ R w (applyU noHeap upd.old):=by
  have key:∀ k c,applyU noHeap upd.old k = some c→H k = some c:=fun k c hk=>by
    obtain ⟨x,hx,rfl,rfl⟩:=old_get hk
    exact hu.get x hx
  exact ⟨fun k c hk=>h.rel k c (key k c hk),fun k k' c c' b b' cap cap' x hk hk'=>h.inj k k' c c' b b' cap cap' x (key k c hk) (key k' c' hk')⟩
def dstB (o:Oper) (n:Nat):Bool:=match o.dst with|some d=>decide (d < n)|none=>true
theorem fact_step {P:Program} {ops:Array Oper} {o:Oper} {st:St} {v:AV} {upd:Upd} {c:Option Chunk} (hf:OpFact P st.gl ops o st.ev st.lk st.next v upd c) (hd:dstB o st.n = true)
    {R:Prot} {φ:Place} {a:Act} {w:World} (h:Sat R φ st a w) {next:Act→World→Prop} {Q:Exit→Act→World→Prop}
    (hnext:∀ R' φ' a' w',Sat R' φ' (st.step o.dst v upd c) a' w'→Ext st R φ w (st.step o.dst v upd c) R' φ' w'→next a' w') :
    (if Region.wanted o (yielded ops a.tmps) = true then o.wp P a w next Q∨(o.asks P a w∧LetsOut Q) else next (a.put o.dst undef) w):=by
  obtain ⟨h,hfx⟩:=h
  refine hf.run φ R a w (fun x _=>h.ev x) (fun t _=>h.env t) (fun x hx id c' _ hc=>h.heap.rel id c' hc) (hrel_old hf.ok h.heap) h.rlt h.gl next Q ?_
  intro φ' R' w' u hs hu
  have hfresh:st.lk st.next = none:=by
    cases hh:st.lk st.next with
    | none=>rfl
    | some c=>have:=h.hnext _ _ hh;omega
  obtain ⟨h1,h2⟩:=SatF.step h hfresh (Nat.lt_succ_self _) (Nat.le_succ _) hf.ok hs hu o.dst (fun d hd'=>by
      simp only [dstB,hd',decide_eq_true_eq] at hd
      exact hd)
    (fun j hj=>(hf.names j hj).imp (fun hn=>named_ex h hf.ok hn) (fun h=>h)) (fun cs j hc hj=>named_ex h hf.ok (hf.cnames cs j hc hj)) (fun x hx j hj=>named_ex h hf.ok (hf.unames x hx j hj))
  rw [← step_get st o.dst v upd c,← step_lk st o.dst v upd c hf.keys hf.ok] at h1
  rw [← step_lk st o.dst v upd c hf.keys hf.ok] at h2
  exact hnext R' φ' _ w' ⟨h1,Nat.le_succ_of_le hfx⟩ ⟨h2,fun id hid=>hs.place id (by omega),rfl,rfl⟩
def AV.may (id:Nat) (v:AV):Bool:=match v with|.maybe _ _=>true|v=>v.has id
theorem may_has {id:Nat} {v:AV} (h:v.may id = false):v.has id = false:=by
  unfold AV.may at h
  split at h
  · simp at h
  · exact h
def AV.scrub (id:Nat) (v:AV):AV:=match v.may id with|true=>.any|false=>v
def Chunk.scrub (id:Nat):Chunk→Chunk
  | .box cs=>.box (cs.map (AV.scrub id))
  | .arr t xs=>.arr t xs
  | .ext X=>match X.ids.contains id with
    | true=>.ext (.top X.fixed)
    | false=>.ext X
def scrubEnv (id:Nat) (env:List (Nat × AV)):List (Nat × AV):=env.map fun p=>(p.1,p.2.scrub id)
def scrubHeap (id:Nat) (h:List (Nat × Chunk)):List (Nat × Chunk):=h.map fun p=>(p.1,p.2.scrub id)
def St.app (st:St) (dst:Option Nat) (id:Nat) (v:AV) (ch:Chunk):St:=
  { n:=st.n,fix:=st.fix,next:=st.next + 1,env:=(match dst with|some d=>(d,v) :: scrubEnv id st.env|none=>scrubEnv id st.env),heap:=(id,ch) :: scrubHeap id st.heap,gl:=st.gl }
theorem scrub_has (id:Nat) (v:AV):(v.scrub id).has id = false:=by
  unfold AV.scrub
  split
  · rfl
  · rename_i h;exact may_has h
theorem scrub_sub {id j:Nat} {v:AV} (h:(v.scrub id).has j = true):v.has j = true:=by
  unfold AV.scrub at h
  split at h
  · simp [AV.has] at h
  · exact h
theorem scrub_ne {id j:Nat} {v:AV} (h:(v.scrub id).has j = true):j≠id:=fun e=>by subst e;rw [scrub_has] at h;simp at h
theorem lookup_map {α β:Type} (f:α→β) (k:Nat):∀ (l:List (Nat × α)),lookup k (l.map fun p=>(p.1,f p.2)) = (lookup k l).map f
  | []=>rfl
  | (j,a) :: r=>by
    simp only [List.map_cons,lookup_cons,lookup_map f k r]
    split <;> simp
theorem scrub_rep {φ φ':Place} {R R':Prot} {w w':World} {id:Nat} {v:AV} {u:Value} (h:RepV φ R w v u) (hp:∀ j,j≠id→φ' j = φ j) (hR:∀ b o,R b o→R' b o) (hw:∀ b o,R b o→w'.cell? ⟨b,o,none⟩ = w.cell? ⟨b,o,none⟩) :
    RepV φ' R' w' (v.scrub id) u:=by
  unfold AV.scrub
  split
  · simp [RepV]
  · rename_i hn
    have hn:=may_has hn
    exact RepV.mono hR hw (fun j hj=>hp j (fun e=>by subst e;rw [hn] at hj;simp at hj)) h
theorem scrub_reps {φ φ':Place} {R R':Prot} {w w':World} {id:Nat} (hp:∀ j,j≠id→φ' j = φ j) (hR:∀ b o,R b o→R' b o) (hw:∀ b o,R b o→w'.cell? ⟨b,o,none⟩ = w.cell? ⟨b,o,none⟩) :
    ∀ {vs:List AV} {us:List Value},RepVs φ R w vs us→RepVs φ' R' w' (vs.map (AV.scrub id)) us
  | [],_,h=>by simpa [RepVs] using h
  | v :: vs,_,h=>by
    simp only [RepVs] at h
    obtain ⟨u,us,rfl,h1,h⟩:=h
    exact ⟨u,us,rfl,scrub_rep h1 hp hR hw,scrub_reps hp hR hw h⟩
theorem hasAny_scrub {id j:Nat} {vs:List AV} (h:AV.hasAny j (vs.map (AV.scrub id)) = true):j≠id∧AV.hasAny j vs = true:=by
  obtain ⟨x,hx,h1⟩:=hasAny_map _ _ _ h
  refine ⟨scrub_ne h1,?_⟩
  have h2:=scrub_sub h1
  clear h h1
  induction vs with
  | nil=>simp at hx
  | cons y vs ih=>
    simp only [AV.hasAny,Bool.or_eq_true]
    rcases List.mem_cons.1 hx with rfl|hx
    · exact .inl h2
    · exact .inr (ih hx)
theorem Chunk.scrub_has {id j:Nat} {c:Chunk} (h:(c.scrub id).has j = true):j≠id∧c.has j = true:=by
  cases c with
  | box cs=>simp only [Chunk.scrub,Chunk.has] at h ⊢;exact hasAny_scrub h
  | arr t l=>simp [Chunk.scrub,Chunk.has] at h
  | ext X=>
    simp only [Chunk.scrub] at h
    split at h
    · simp [Chunk.has,XCh.top] at h
    · rename_i hn
      simp only [Chunk.has] at h ⊢
      exact ⟨fun e=>by subst e;rw [hn] at h;simp at h,h⟩
theorem Chunk.at_scrub {id:Nat} {c:Chunk} {b cap x:Nat} (h:(c.scrub id).at b cap x):c.at b cap x:=by
  cases c with
  | box cs=>exact h
  | arr t l=>exact h
  | ext X=>
    simp only [Chunk.scrub] at h
    split at h
    · rcases h with h|h
      · exact .inl h
      · exact h.elim
    · exact h
theorem Chunk.scrub_rel {φ φ':Place} {R R':Prot} {w w':World} {id j:Nat} {c:Chunk} (h:ChunkRel φ R w j c) (hj:φ' j = φ j) (hp:∀ k,k≠id→φ' k = φ k) (hR:∀ b o,R b o→R' b o)
    (hk:∀ b o,R b o→w'.cell? ⟨b,o,none⟩ = w.cell? ⟨b,o,none⟩) (hb:∀ b cap x,φ j = some (b,cap)→c.at b cap x→x < w.heap.size→w'.heap[x]? = w.heap[x]?∧∀ o,R' x o→R x o):ChunkRel φ' R' w' j (c.scrub id):=by
  cases c with
  | box cs=>
    obtain ⟨b,cap,vs,e,fr,q1,q2,q3,q4,q5⟩:=h
    obtain ⟨h1,h2⟩:=hb b cap b q1 rfl (Array.getElem?_eq_some_iff.1 q2).1
    exact ⟨b,cap,vs,e,fr,by rw [hj,q1],by rw [h1,q2],scrub_reps hp hR hk q3,fun o h=>q4 o (h2 o h),q5⟩
  | arr t l=>exact ChunkRel.mono (c:=.arr t l) h hj (fun _ h=>by simp [Chunk.has] at h) hR hk hb
  | ext X=>
    simp only [Chunk.scrub]
    split
    · rcases h with ⟨q1,_⟩|⟨b,cap,o,q1,q2,q3,q4⟩
      · exact .inl ⟨by rw [hj,q1],trivial⟩
      obtain ⟨h1,h2⟩:=hb b cap b q1 (.inl rfl) (Array.getElem?_eq_some_iff.1 q2).1
      exact .inr ⟨b,cap,o,by rw [hj,q1],by rw [h1,q2],trivial,fun o h=>q4 o (h2 o h)⟩
    · rename_i hn
      exact ChunkRel.mono (c:=.ext X) h hj (fun k hk=>hp k (fun e=>by subst e;simp only [Chunk.has] at hk;rw [hn] at hk;simp at hk)) hR hk hb
theorem app_sat {R:Prot} {φ:Place} {st:St} {a:Act} {w:World} (hs:Sat R φ st a w) {id:Nat} {ty:Ty} {old xs:List ty.D} (hid:st.lk id = some (.arr ty old)) (hfix:st.fix≤id) {m:Nat}
    {φ':Place} {w':World} (hp:∀ j,j≠id→φ' j = φ j) {R':Prot} (hR:∀ b o,R b o→R' b o) (hRn:∀ b o,R' b o→R b o∨w.heap.size≤b∨∃ cap,φ id = some (b,cap)) (hRB:RB R' w') (hos:w'.os = w.os) (htp:w'.tape = w.tape) (hout:w'.output = w.output) (hsz:w.heap.size≤w'.heap.size)
    (hcell:∀ b o,R b o→w'.cell? ⟨b,o,none⟩ = w.cell? ⟨b,o,none⟩) (hblk:∀ b,b < w.heap.size→(∀ cap,φ id≠some (b,cap))→w'.heap[b]? = w.heap[b]?)
    (hch:ChunkRel φ' R' w' id (.arr ty xs)) (hpl:∀ b cap,φ' id = some (b,cap)→w.heap.size≤b∨∃ cap',φ id = some (b,cap')) {u:Value} (hu:RepV φ' R' w' (.own id m) u)
    (dst:Option Nat) (hd:∀ d,dst = some d→d < st.n):Sat R' φ' (st.app dst id (.own id m) (.arr ty xs)) (a.put dst u) w'∧Ext st R φ w (st.app dst id (.own id m) (.arr ty xs)) R' φ' w':=by
  have hget:∀ t,(st.app dst id (.own id m) (.arr ty xs)).get t = if dst = some t then .own id m else (st.get t).scrub id:=by
    intro t
    cases dst with
    | none=>
      simp only [St.app,St.get,scrubEnv,lookup_map]
      cases lookup t st.env <;> simp [AV.scrub,AV.may,AV.has]
    | some d=>
      simp only [St.app,St.get,lookup_cons,scrubEnv,lookup_map,Option.some.injEq]
      by_cases e:d = t
      · simp [e]
      · rw [if_neg e,if_neg e]
        cases lookup t st.env <;> simp [AV.scrub,AV.may,AV.has]
  have hlk:∀ k,(st.app dst id (.own id m) (.arr ty xs)).lk k = if k = id then some (.arr ty xs) else (st.lk k).map (Chunk.scrub id):=by
    intro k
    simp only [St.app,St.lk,lookup_cons,scrubHeap,lookup_map]
    by_cases e:id = k
    · rw [if_pos e,if_pos e.symm]
    · rw [if_neg e,if_neg (fun h=>e h.symm)]
  have hsome:∀ j,(∃ c,st.lk j = some c)→∃ c,(st.app dst id (.own id m) (.arr ty xs)).lk j = some c:=fun j ⟨c,hc⟩=>by
    rw [hlk]
    split
    · exact ⟨_,rfl⟩
    · exact ⟨_,by rw [hc];rfl⟩
  have hinv:∀ j c,(st.app dst id (.own id m) (.arr ty xs)).lk j = some c→(j = id∧c = .arr ty xs)∨(j≠id∧∃ c',st.lk j = some c'∧c = c'.scrub id):=fun j c hj=>by
    rw [hlk] at hj
    split at hj
    · rename_i e;simp only [Option.some.injEq] at hj;exact .inl ⟨e,hj.symm⟩
    · rename_i e
      obtain ⟨c',h1,h2⟩:=Option.map_eq_some_iff.1 hj
      exact .inr ⟨e,c',h1,h2.symm⟩
  have hown:∀ b j c cap x,j≠id→st.lk j = some c→φ j = some (b,cap)→c.at b cap x→x < w.heap.size∧(∀ o,¬ R x o)∧∀ cap',φ id≠some (x,cap'):=fun b j c cap x hj hc hpj hx=>by
    have:=(hs.s.heap.rel j c hc).blocks hpj hx
    exact ⟨this.1,this.2,fun cap' h=>hj (hs.s.heap.inj j id c _ b x cap cap' x hc hid hpj h hx rfl)⟩
  refine ⟨⟨⟨fun t=>?_,fun t j hj=>?_,fun j cs k hj hk=>?_,fun j c hj=>?_,?_,⟨fun j c hj=>?_,fun j k c d b b' cap cap' x hj hk hpj hpk hx hx'=>?_⟩,hRB,?_,fun g cs hg=>?_⟩,?_⟩,
    ⟨⟨hos,htp,hout,hsz,fun b hb ho=>hblk b hb (fun cap h=>ho (Owns.main hid h)),hR,hcell,fun b o h=>by
      rcases hRn b o h with h|h|⟨cap,h⟩
      · exact .inl h
      · exact .inr (.inl h)
      · exact .inr (.inr (Owns.main hid h)),fun b hb=>?_⟩,fun j hj=>hp j (by omega),rfl,rfl⟩⟩
  · rw [hget,getD_put a dst u t (fun d hd'=>by rw [hs.s.sz];exact hd d hd')]
    split
    · exact hu
    · exact scrub_rep (hs.s.env t) hp hR hcell
  · rw [hget] at hj
    split at hj
    · simp [AV.has] at hj
      subst hj
      exact hsome _ ⟨_,hid⟩
    · exact hsome j (hs.s.named t j (scrub_sub hj))
  · rcases hinv j _ hj with ⟨_,h⟩|⟨_,c',h1,h2⟩
    · subst h;simp [Chunk.has] at hk
    · subst h2
      exact hsome k (hs.s.hnamed j c' k h1 (Chunk.scrub_has hk).2)
  · show j < st.next + 1
    rcases hinv j _ hj with ⟨e,_⟩|⟨_,c',h1,_⟩
    · have:=hs.s.hnext id _ hid;omega
    · have:=hs.s.hnext j _ h1;omega
  · have:=hs.s.sz
    cases dst <;> simp [Act.put,St.app,this]
  · rcases hinv j _ hj with ⟨rfl,rfl⟩|⟨hne,c',h1,rfl⟩
    · exact hch
    · exact Chunk.scrub_rel (hs.s.heap.rel j c' h1) (hp j hne) hp hR hcell (fun b cap x hpj hx hlt=>⟨hblk x hlt (hown b j _ cap x hne h1 hpj hx).2.2,fun o h=>by
        rcases hRn x o h with h|h|⟨c9,h⟩
        · exact h
        · omega
        · exact absurd h ((hown b j _ cap x hne h1 hpj hx).2.2 c9)⟩)
  · rcases hinv j _ hj with ⟨e1,rfl⟩|⟨hne,c',h1,rfl⟩
    · rcases hinv k _ hk with ⟨e2,_⟩|⟨hne2,c2,h2,rfl⟩
      · rw [e1,e2]
      · rw [e1] at hpj
        rw [hp k hne2] at hpk
        have hx:x = b:=hx
        subst hx
        obtain ⟨ob1,_,ob3⟩:=hown b' k _ cap' x hne2 h2 hpk (Chunk.at_scrub hx')
        rcases hpl x cap hpj with h|⟨c3,h⟩
        · omega
        · exact absurd h (ob3 c3)
    · rw [hp j hne] at hpj
      rcases hinv k _ hk with ⟨e2,rfl⟩|⟨hne2,c2,h2,rfl⟩
      · rw [e2] at hpk
        have hx':x = b':=hx'
        subst hx'
        obtain ⟨ob1,_,ob3⟩:=hown b j _ cap x hne h1 hpj (Chunk.at_scrub hx)
        rcases hpl x cap' hpk with h|⟨c3,h⟩
        · omega
        · exact absurd h (ob3 c3)
      · rw [hp k hne2] at hpk
        exact hs.s.heap.inj j k _ _ b b' cap cap' x h1 h2 hpj hpk (Chunk.at_scrub hx) (Chunk.at_scrub hx')
  · have:=hs.s.defers
    cases dst <;> simpa [Act.put] using this
  · have:=hs.s.gl g cs hg
    refine ⟨RepV.mono hR hcell (fun j hj=>?_) this.1,this.2⟩
    simp only [AV.has] at hj
    rw [this.2 j] at hj
    simp at hj
  · have:=hs.fx
    show st.fix≤st.next + 1
    omega
  · obtain ⟨j,c,b0,cap,hj,hpj,hx⟩:=hb
    rcases hinv j _ hj with ⟨e1,rfl⟩|⟨hne,c',h1,rfl⟩
    · rw [e1] at hpj
      have hx:b = b0:=hx
      subst hx
      rcases hpl b cap hpj with h|⟨c3,h⟩
      · exact .inl h
      · exact .inr (Owns.main hid h)
    · rw [hp j hne] at hpj
      exact .inr ⟨j,c',b0,cap,h1,hpj,Chunk.at_scrub hx⟩
def appOwnV (T:Tab) (st:St) (dst:Option Nat) (id n:Nat) (ts tx:TypeId) (x:AV) (K:St→Prop):Prop:=
  match tget T ts with
  | some e=>match e.k with
    | .slice et=>match tget T et,tyOf T 20 et,st.lk id with
      | some ee,some ty,some (.arr ty' xs)=>if h:ty' = ty then match Nat.beq ee.size ty.size,notInt T tx,Nat.ble st.fix id,x.has id with
          | true,true,true,false=>srcV st.lk ty x fun ys=>(n≤xs.length∧(n + ys.length) * ee.bytes≤140737488355328∧n + ys.length≤140737488355328)∧
              K (st.app dst id (.own id (n + ys.length)) (.arr ty ((h ▸ xs:List ty.D).take n ++ ys)))
          | _,_,_,_=>False
        else False
      | _,_,_=>False
    | _=>False
  | none=>False
def oneC (id:Nat) (c:Chunk):Heap:=fun k=>if k = id then some c else none
def callOwnV (P:Program) (st:St) (dst:Option Nat) (fv:AV) (args:List AV) (K:St→Prop):Prop:=
  match fv with
  | .fn g caps=>∃ id ty xs ys m,st.lk id = some (.arr ty xs)∧st.fix≤id∧FSpec P st.gl g (args ++ caps) (oneC id (.arr ty xs)) (.own id m) (oneC id (.arr ty ys))∧K (st.app dst id (.own id m) (.arr ty ys))
  | _=>False
def seqOp (P:Program) (T:Tab) (ops:Array Oper) (st:St) (o:Oper) (K:St→Prop):Prop:=
  match o.op,o.guard with
  | .call ⟨.value f,args,ats⟩,none=>(opG P T ops st.gl st.lk st.ev st.next o fun v upd c=>K (st.step o.dst v upd c))∨
      needsAll ((Op.call ⟨.value f,args,ats⟩).operands.toList.map st.ev) (callOwnV P st o.dst (st.ev f).un (args.toList.map fun x=>(st.ev x).un) K)
  | .call ⟨.builtin .append,⟨[s,x]⟩,⟨[ts,tx]⟩⟩,none=>needs (st.ev s) (needs (st.ev x) (match (st.ev s).un with
      | .own id n=>appOwnV T st o.dst id n ts tx (st.ev x).un K
      | .nils=>appNilV T st.lk st.next ts tx (st.ev x).un (fun v c=>K (st.step o.dst v [] c))
      | _=>False))
  | .store t x y,none=>match st.ev x with
      | .eloc id sz i off=>stElV T st o.dst t id sz i off (st.ev y) K
      | _=>opG P T ops st.gl st.lk st.ev st.next o fun v upd c=>K (st.step o.dst v upd c)
  | _,_=>opG P T ops st.gl st.lk st.ev st.next o fun v upd c=>K (st.step o.dst v upd c)
def awpSeq (P:Program) (T:Tab) (ops:Array Oper):List Oper→St→(St→Prop)→Prop
  | [],st,K=>K st
  | o :: r,st,K=>seqOp P T ops st o fun st'=>awpSeq P T ops r st' K
section
variable {P:Program} {T:Tab} (hT:tabOK P T = true)
include hT
theorem appOwn_sound {ops:Array Oper} {st:St} {id n:Nat} {ts tx:TypeId} {s x:Operand} {K:St→Prop} (o:Oper) (ho:o.op = .call ⟨.builtin .append,⟨[s,x]⟩,⟨[ts,tx]⟩⟩) (hg:o.guard = none)
    (hsk:okP (st.ev s)) (hxk:okP (st.ev x)) (hsv:(st.ev s).un = .own id n) (h:appOwnV T st o.dst id n ts tx (st.ev x).un K) (hd:dstB o st.n = true) {R:Prot} {φ:Place} {a:Act} {w:World} (hs:Sat R φ st a w)
    {next:Act→World→Prop} {Q:Exit→Act→World→Prop} (hnext:∀ R' φ' a' w' st',K st'→Sat R' φ' st' a' w'→Ext st R φ w st' R' φ' w'→next a' w') :
    (if Region.wanted o (yielded ops a.tmps) = true then o.wp P a w next Q∨(o.asks P a w∧LetsOut Q) else next (a.put o.dst undef) w):=by
  have hw:Region.wanted o (yielded ops a.tmps) = true:=by simp [Region.wanted,hg]
  rw [if_pos hw]
  left
  unfold appOwnV at h
  split at h
  · rename_i e he
    split at h
    · rename_i et hk
      split at h
      · rename_i ee ty ty' xs hee hty hlk
        split at h
        · rename_i ety
          subst ety
          split at h
          · rename_i hsz hni hfix hxi
            have hsz:=Nat.eq_of_beq_eq_true hsz
            have hfix:=Nat.le_of_ble_eq_true hfix
            obtain ⟨ys,⟨⟨hn,hb1,hb2⟩,hK⟩,hsrc⟩:=src_run hT h
            have hrs:=(hs.s.ev s).un hsk
            have hrx:=(hs.s.ev x).un hxk
            have hsv':(evF st.get st.gl s).un = .own id n:=hsv
            rw [hsv'] at hrs
            have hcx:ChOK φ R w st.lk (st.ev x).un:=fun j c _ hc=>hs.s.heap.rel j c hc
            have hcs:ChunkRel φ R w id (.arr ty' xs):=hs.s.heap.rel id _ hlk
            have hds:∀ d,o.dst = some d→d < st.n:=fun d hd'=>by simp only [dstB,hd',decide_eq_true_eq] at hd;exact hd
            simp only [RepV] at hrs
            obtain ⟨p,cap,hav,hncap⟩:∃ p cap,a.eval s = .slice p n cap∧n≤cap:=by
              rcases hrs with ⟨_,rfl,h9⟩|⟨b,cap,_,hc,h9⟩
              · exact ⟨none,0,h9,Nat.le_refl _⟩
              · exact ⟨_,cap,h9,hc⟩
            have hex:(execOp a.eval o).run P w = ((Builtin.append_ #[ts,tx] o.type #[.slice p n cap,a.eval x]).run P w).andThen fun v w'=>.ok (.value v) w':=by
              simp [execOp,ho,resolve,invoke,builtin,hav]
            unfold Oper.wp
            rw [hex]
            obtain ⟨cells,hrow,hl,hfc⟩:=hsrc φ R w _ hrx hcx
            by_cases hroom:n + ys.length≤cap
            · rw [append_room hT he hk hee hni hl (by rw [hsz];exact hfc) hroom]
              rcases hrs with ⟨hφ,hn0,hsl⟩|⟨b,cap',hφ,hncap',hsl⟩
              · rw [hav] at hsl
                simp only [Value.slice.injEq] at hsl
                obtain ⟨rfl,_,rfl⟩:=hsl
                have hy0:ys = []:=List.eq_nil_of_length_eq_zero (by omega)
                subst hy0;subst hn0
                simp only [Sem.run_pure,Result.andThen_ok]
                obtain ⟨h1,h2⟩:=app_sat hs hlk hfix (m:=0) (φ':=φ) (w':=w) (xs:=[]) (fun _ _=>rfl) (fun _ _ h=>h) (fun _ _ h=>.inl h) hs.s.rlt rfl rfl rfl (Nat.le_refl _) (fun _ _ _=>rfl) (fun _ _ _=>rfl) (.inl ⟨hφ,rfl⟩)
                  (fun b cap h=>by rw [hφ] at h;simp at h) (u:=.slice none 0 0) (by unfold RepV;exact .inl ⟨hφ,rfl,rfl⟩) o.dst hds
                exact hnext R φ _ _ _ (by simpa using hK) h1 h2
              · rw [hav] at hsl
                simp only [Value.slice.injEq] at hsl
                obtain ⟨rfl,_,rfl⟩:=hsl
                rcases hcs with ⟨h1,h2⟩|⟨b',cap',vs,te,fr,hφ',hh,hvs,hxcap,hel,hnR,hnf⟩
                · rw [hφ] at h1;simp at h1
                · rw [hφ] at hφ'
                  simp only [Option.some.injEq,Prod.mk.injEq] at hφ'
                  obtain ⟨rfl,rfl⟩:=hφ'
                  have hmul:(n + ys.length) * ty'.size≤cap * ty'.size:=Nat.mul_le_mul_right _ hroom
                  rw [Nat.add_mul] at hmul
                  obtain ⟨vs',hv',hrun⟩:=run_storeCells_blk (P:=P) (b:=b) (off:=0 + n * ee.size) (e:=te) (fr:=fr) cells 0 vs w hh (by rw [hrow.1,hvs,hsz];omega) hnf hrow.one
                  have hadd:(⟨b,0,none⟩:Addr).add (n * ee.size) = ⟨b,0 + n * ee.size,none⟩:=Addr.add_lit _ _ _
                  simp only [hadd]
                  rw [hrun]
                  simp only [Result.andThen_ok]
                  have hlt:b < w.heap.size:=(Array.getElem?_eq_some_iff.1 hh).1
                  have hcell:∀ k o',R k o'→(setBlk w b (.cells vs' te fr)).cell? ⟨k,o',none⟩ = w.cell? ⟨k,o',none⟩:=fun k o' hr=>setBlk_cell (fun h=>by subst h;exact hnR o' hr)
                  have hvl:vs'.size = vs.size:=by
                    have:=congrArg List.length hv'
                    simp only [List.length_append,List.length_take,List.length_drop,Array.length_toList,hrow.1,hsz] at this
                    rw [hvs] at this ⊢
                    omega
                  have hle:n * ty'.size≤vs.toList.length:=by simp [hvs];exact Nat.mul_le_mul_right _ hncap
                  have hrow2:=(RowOf.take hel n hn hle).append hrow
                  have hel2:∀ (i:Nat) (hi:i < (xs.take n ++ ys).length),Rep (setBlk w b (.cells vs' te fr)) R ty' (xs.take n ++ ys)[i] ((vs'.toList.drop (i * ty'.size)).take ty'.size):=by
                    intro i hi
                    have hr2:=hrow2.2 i hi
                    have hlen2:=hrow2.1
                    have e1:(vs'.toList.drop (i * ty'.size)).take ty'.size = ((vs.toList.take (n * ty'.size) ++ cells).drop (i * ty'.size)).take ty'.size:=by
                      rw [hv']
                      simp only [Nat.zero_add,Nat.add_zero,hsz]
                      have hmi:(i + 1) * ty'.size≤(xs.take n ++ ys).length * ty'.size:=Nat.mul_le_mul_right _ hi
                      rw [Nat.add_mul,Nat.one_mul,← hlen2] at hmi
                      rw [List.drop_append_of_le_length (by omega),List.take_append_of_le_length (by simp only [List.length_drop];omega)]
                    rw [e1]
                    exact Rep.mono (fun _ _ h=>h) hcell hr2
                  obtain ⟨h1,h2⟩:=app_sat hs hlk hfix (m:=n + ys.length) (φ':=φ) (w':=setBlk w b (.cells vs' te fr)) (xs:=xs.take n ++ ys) (fun _ _=>rfl) (fun _ _ h=>h) (fun _ _ h=>.inl h) (fun k o' h=>by have:=hs.s.rlt k o' h;simpa [setBlk] using this) rfl rfl rfl (by simp [setBlk]) hcell
                    (fun k hk hne=>setBlk_ne (fun h=>hne cap (h ▸ hφ))) (.inr ⟨b,cap,vs',te,fr,hφ,setBlk_get hlt,by rw [hvl,hvs],by simp;omega,hel2,hnR,by rw [hvl];exact hnf⟩)
                    (fun b2 c2 h=>.inr ⟨c2,h⟩) (u:=.slice (some ⟨b,0,none⟩) (n + ys.length) cap) (by simp only [RepV];exact .inr ⟨b,cap,hφ,hroom,rfl⟩) o.dst hds
                  exact hnext R φ _ _ _ hK h1 h2
            · obtain ⟨cells2,hrow2,_,hfc2⟩:=hsrc φ R { w with drawn:=w.drawn + 1 } _ (hrx.drew _) (ChOK.drew hcx _)
              have hrow0:∃ oldc:List Value,RowOf { w with drawn:=w.drawn + 1 } R ty' (xs.take n) oldc∧(Builtin.firstCells ee.size n (.slice p n cap)).run P { w with drawn:=w.drawn + 1 } = .ok oldc.toArray { w with drawn:=w.drawn + 1 }:=by
                rcases hrs with ⟨hφ,hn0,hsl⟩|⟨b,cap',hφ,hncap',hsl⟩
                · rw [hav] at hsl
                  simp only [Value.slice.injEq] at hsl
                  obtain ⟨rfl,_,rfl⟩:=hsl
                  subst hn0
                  exact ⟨[],by simpa using RowOf.nil _ R ty',by simp [Builtin.firstCells]⟩
                · rw [hav] at hsl
                  simp only [Value.slice.injEq] at hsl
                  obtain ⟨rfl,_,rfl⟩:=hsl
                  rcases hcs with ⟨h1,h2⟩|⟨b',cap',vs,te,fr,hφ',hh,hvs,hxcap,hel,hnR,hnf⟩
                  · rw [hφ] at h1;simp at h1
                  · rw [hφ] at hφ'
                    simp only [Option.some.injEq,Prod.mk.injEq] at hφ'
                    obtain ⟨rfl,rfl⟩:=hφ'
                    have hle:n * ty'.size≤vs.toList.length:=by simp [hvs];exact Nat.mul_le_mul_right _ hncap
                    have hrw:=RowOf.take hel n hn hle
                    refine ⟨vs.toList.take (n * ty'.size),⟨hrw.1,fun i hi=>Rep.mono (w:=w) (w':={ w with drawn:=w.drawn + 1 }) (fun _ _ h=>h) (fun _ _ _=>rfl) (hrw.2 i hi)⟩,?_⟩
                    have hl:=run_loadCells_list (P:=P) { w with drawn:=w.drawn + 1 } ⟨b,0,none⟩ (vs.toList.take (n * ty'.size)) (fun j v hj=>by
                      rw [Addr.add_lit]
                      have hj':vs.toList[j]? = some v:=by
                        rw [List.getElem?_take] at hj
                        split at hj
                        · exact hj
                        · simp at hj
                      simp only [World.cell?,hh,Nat.zero_add]
                      simpa using hj')
                    have hll:(vs.toList.take (n * ty'.size)).length = n * ty'.size:=by simp only [List.length_take];omega
                    rw [hll] at hl
                    simp only [Builtin.firstCells,hsz]
                    exact hl
              obtain ⟨oldc,hrw0,hold⟩:=hrow0
              obtain ⟨newCap,zs,hcap,hzs,hrun⟩:=append_grow hT (rt:=o.type) he hk hee hni hl (by rw [hsz];exact hfc2) hold hroom hb1 hb2
              rw [hrun]
              simp only [Result.andThen_ok]
              have hR:=hs.s.rlt
              have hcell:∀ k o',R k o'→(pushed w (.cells (oldc.toArray ++ cells2.toArray ++ zs) et) (w.drawn + 1)).cell? ⟨k,o',none⟩ = w.cell? ⟨k,o',none⟩:=fun k o' hr=>pushed_cell (hR k o' hr)
              have hrw:=hrw0.append hrow2
              have hlen2:=hrw.1
              have hxl:(xs.take n ++ ys).length = n + ys.length:=by simp;omega
              have hsize:(oldc.toArray ++ cells2.toArray ++ zs).size = newCap * ty'.size:=by
                have h9:=hlen2
                simp only [List.length_append] at h9
                have h8:=hxl
                simp only [List.length_append] at h8
                simp only [Array.size_append,List.size_toArray,hzs,hsz]
                rw [h9,h8,← Nat.add_mul]
                congr 1
                omega
              have hel2:∀ (i:Nat) (hi:i < (xs.take n ++ ys).length),Rep (pushed w (.cells (oldc.toArray ++ cells2.toArray ++ zs) et) (w.drawn + 1)) R ty' (xs.take n ++ ys)[i]
                  (((oldc.toArray ++ cells2.toArray ++ zs).toList.drop (i * ty'.size)).take ty'.size):=by
                intro i hi
                have hr2:=hrw.2 i hi
                have e1:((oldc.toArray ++ cells2.toArray ++ zs).toList.drop (i * ty'.size)).take ty'.size = ((oldc ++ cells2).drop (i * ty'.size)).take ty'.size:=by
                  simp only [Array.toList_append]
                  have hmi:(i + 1) * ty'.size≤(xs.take n ++ ys).length * ty'.size:=Nat.mul_le_mul_right _ hi
                  rw [Nat.add_mul,Nat.one_mul,← hlen2] at hmi
                  rw [List.drop_append_of_le_length (by omega),List.take_append_of_le_length (by simp only [List.length_drop];omega)]
                rw [e1]
                exact Rep.mono (w:={ w with drawn:=w.drawn + 1 }) (fun _ _ h=>h) hcell hr2
              obtain ⟨h1,h2⟩:=app_sat hs hlk hfix (m:=n + ys.length) (φ':=setPlace φ id (some (w.heap.size,newCap))) (w':=pushed w (.cells (oldc.toArray ++ cells2.toArray ++ zs) et) (w.drawn + 1)) (xs:=xs.take n ++ ys)
                (fun j hj=>by simp [setPlace,hj]) (fun _ _ h=>h) (fun _ _ h=>.inl h) (fun k o' h=>by have:=hR k o' h;show k < (w.heap.push _).size;rw [Array.size_push];omega) rfl rfl rfl (by simp [pushed]) hcell (fun k hk _=>by show (w.heap.push _)[k]? = _;rw [Array.getElem?_push,if_neg (by omega)])
                (.inr ⟨w.heap.size,newCap,_,et,(0,0),by simp [setPlace],pushed_get _ _ _,hsize,by omega,hel2,not_prot_new hR,noFr_zero _⟩)
                (fun b2 c2 h=>by simp only [setPlace,if_true,Option.some.injEq,Prod.mk.injEq] at h;exact .inl (by omega)) (u:=.slice (some ⟨w.heap.size,0,none⟩) (n + ys.length) newCap)
                (by simp only [RepV];exact .inr ⟨w.heap.size,newCap,by simp [setPlace],hcap,rfl⟩) o.dst hds
              exact hnext R _ _ _ _ hK h1 h2
          · exact h.elim
        · exact h.elim
      · exact h.elim
    · exact h.elim
  · exact h.elim
omit hT in
theorem callOwn_sound {ops:Array Oper} {st:St} {f:Operand} {args:Array Operand} {ats:Array TypeId} {K:St→Prop} (o:Oper) (ho:o.op = .call ⟨.value f,args,ats⟩) (hg:o.guard = none)
    (h:needsAll ((Op.call ⟨.value f,args,ats⟩).operands.toList.map st.ev) (callOwnV P st o.dst (st.ev f).un (args.toList.map fun x=>(st.ev x).un) K)) (hd:dstB o st.n = true) {R:Prot} {φ:Place} {a:Act} {w:World} (hs:Sat R φ st a w)
    {next:Act→World→Prop} {Q:Exit→Act→World→Prop} (hnext:∀ R' φ' a' w' st',K st'→Sat R' φ' st' a' w'→Ext st R φ w st' R' φ' w'→next a' w') :
    (if Region.wanted o (yielded ops a.tmps) = true then o.wp P a w next Q∨(o.asks P a w∧LetsOut Q) else next (a.put o.dst undef) w):=by
  have hw:Region.wanted o (yielded ops a.tmps) = true:=by simp [Region.wanted,hg]
  rw [if_pos hw]
  left
  obtain ⟨hok,h⟩:=needsAll_iff h
  have hok:∀ x∈(Op.call ⟨.value f,args,ats⟩).operands,okP (st.ev x):=fun x hx=>hok _ (List.mem_map.2 ⟨x,by simpa using hx,rfl⟩)
  unfold callOwnV at h
  split at h
  · rename_i g caps hf
    obtain ⟨id,ty,xs,ys,m,hlk,hfix,⟨⟨fn,hfn,hname,hbody⟩,hspec⟩,hK⟩:=h
    have hfr:=(hs.s.ev f).un (hok f (by simp [Op.operands,Call.operands]))
    have hf':(evF st.get st.gl f).un = .fn g caps:=hf
    rw [hf'] at hfr
    simp only [RepV] at hfr
    obtain ⟨cv,hfv,hcaps⟩:=hfr
    have hargs:RepVs φ R w ((args.toList.map fun x=>(st.ev x).un) ++ caps) ((args.map a.eval).toList ++ cv.toList):=by
      refine RepVs.append ?_ hcaps
      rw [Array.toList_map]
      exact repVs_map _ _ _ (fun x hx=>(hs.s.ev x).un (hok x (by simp [Op.operands,Call.operands];exact .inr (by simpa using hx))))
    have hone:∀ k c,oneC id (.arr ty xs) k = some c→k = id∧c = .arr ty xs:=fun k c hk=>by
      unfold oneC at hk
      split at hk
      · rename_i e;simp only [Option.some.injEq] at hk;exact ⟨e,hk.symm⟩
      · simp at hk
    have hrel:=hs.s.heap.rel id _ hlk
    have hcall:=hspec φ R w _ ⟨fun k c hk=>by obtain ⟨rfl,rfl⟩:=hone k c hk;exact hrel,fun k k' c c' _ _ _ _ _ hk hk' _ _ _ _=>by rw [(hone k c hk).1,(hone k' c' hk').1]⟩ hs.s.rlt hs.s.gl hargs
    have hrun:(execOp a.eval o).run P w = .ok (.enter g ((args.map a.eval).toList ++ cv.toList).toArray) w:=by
      simp only [execOp,ho,resolve,hfv,Deferred.ofValue,invoke,callFunc,Sem.run_bind,Sem.run_pure,Result.andThen_ok,run_program,hfn,hname,hbody,Bool.false_eq_true,if_false]
      congr 2
      apply Array.ext'
      simp
    unfold Oper.wp
    rw [hrun,Oper.upon_enter]
    refine hcall.mono ?_
    rintro e w' ⟨v,φ1,R1,rfl,hv,hh',hrb,hevo,_⟩
    let φ':Place:=fun j=>if j = id then φ1 id else φ j
    have hch1:ChunkRel φ1 R1 w' id (.arr ty ys):=hh'.rel id _ (by simp [oneC])
    have hown:∀ b,Owns φ (oneC id (.arr ty xs)) b→∃ cap,φ id = some (b,cap):=by
      rintro b ⟨k,c,b0,cap,hk,hp,hx⟩
      obtain ⟨rfl,rfl⟩:=hone k c hk
      cases hx
      exact ⟨cap,hp⟩
    have hown1:∀ b cap,φ1 id = some (b,cap)→w.heap.size≤b∨∃ cap',φ id = some (b,cap'):=fun b cap hp=>by
      rcases hevo.onew b (Owns.main (c:=.arr ty ys) (by simp [oneC]) hp) with h|h
      · exact .inl h
      · exact .inr (hown b h)
    have hφ'id:φ' id = φ1 id:=by simp [φ']
    have hch:ChunkRel φ' R1 w' id (.arr ty ys):=ChunkRel.mono hch1 hφ'id (fun _ h=>by simp [Chunk.has] at h) (fun _ _ h=>h) (fun _ _ _=>rfl) (fun _ _ _ _ _ _=>⟨rfl,fun _ h=>h⟩)
    have hvr:RepV φ' R1 w' (.own id m) v:=by
      simp only [RepV] at hv ⊢
      rw [hφ'id]
      exact hv
    obtain ⟨h1,h2⟩:=app_sat hs hlk hfix (m:=m) (φ':=φ') (w':=w') (xs:=ys) (fun j hj=>by simp [φ',hj]) hevo.rmono (fun b o' h=>by
        rcases hevo.rnew b o' h with h|h|h
        · exact .inl h
        · exact .inr (.inl h)
        · exact .inr (.inr (hown b h))) hrb hevo.os hevo.tape hevo.output hevo.size hevo.rkeep (fun b hb hne=>hevo.keep b hb (fun h=>by obtain ⟨cap,h⟩:=hown b h;exact hne cap h)) hch
      (fun b cap hp=>hown1 b cap (by rw [← hφ'id];exact hp)) hvr o.dst (fun d hd'=>by simp only [dstB,hd',decide_eq_true_eq] at hd;exact hd)
    exact hnext R1 φ' _ _ _ hK h1 h2
  · exact h.elim
theorem seqOp_sound {ops:Array Oper} {st:St} {o:Oper} {K:St→Prop} (h:seqOp P T ops st o K) (hd:dstB o st.n = true) {R:Prot} {φ:Place} {a:Act} {w:World} (hs:Sat R φ st a w)
    {next:Act→World→Prop} {Q:Exit→Act→World→Prop} (hnext:∀ R' φ' a' w' st',K st'→Sat R' φ' st' a' w'→Ext st R φ w st' R' φ' w'→next a' w') :
    (if Region.wanted o (yielded ops a.tmps) = true then o.wp P a w next Q∨(o.asks P a w∧LetsOut Q) else next (a.put o.dst undef) w):=by
  have hfresh:st.lk st.next = none:=by
    cases hh:st.lk st.next with
    | none=>rfl
    | some c=>have:=hs.s.hnext _ _ hh;omega
  have hid:∀ x∈o.op.operands,(st.ev x).has st.next = false:=fun x _=>by
    cases hx:AV.has st.next (st.ev x) with
    | false=>rfl
    | true=>obtain ⟨c,hc⟩:=hs.s.ev_named x _ hx;rw [hfresh] at hc;simp at hc
  unfold seqOp at h
  split at h
  · rename_i f args ats ho hg
    rcases h with h|h
    · obtain ⟨v,upd,c,hk,hf⟩:=opG_sound hT o h hid
      exact fact_step hf hd hs (fun R' φ' a' w' hs' he=>hnext R' φ' a' w' _ hk hs' he)
    · exact callOwn_sound o ho hg h hd hs hnext
  · rename_i s x ts tx ho hg
    obtain ⟨h1,h⟩:=needs_iff h
    obtain ⟨h2,h⟩:=needs_iff h
    split at h
    · rename_i id n hsv
      exact appOwn_sound hT o ho hg h1 h2 hsv h hd hs hnext
    · rename_i hsv
      have h':opG P T ops st.gl st.lk st.ev st.next o fun v upd c=>K (st.step o.dst v upd c):=by
        unfold opG
        rw [hg]
        unfold opU
        rw [ho]
        have n1:∀ p,okP (st.ev s)→p→needs (st.ev s) p:=fun p hk hp=>by
          unfold needs;cases hv:st.ev s <;> simp_all [okP]
        have n2:∀ p,okP (st.ev x)→p→needs (st.ev x) p:=fun p hk hp=>by
          unfold needs;cases hv:st.ev x <;> simp_all [okP]
        refine n1 _ h1 (n2 _ h2 ?_)
        rw [hsv]
        exact h
      obtain ⟨v,upd,c,hk,hf⟩:=opG_sound hT o h' hid
      exact fact_step hf hd hs (fun R' φ' a' w' hs' he=>hnext R' φ' a' w' _ hk hs' he)
    · exact h.elim
  · rename_i t x y ho hg
    split at h
    · rename_i id sz i off hxv
      exact stEl_sound hT o ho hg hxv h hs hnext
    · obtain ⟨v,upd,c,hk,hf⟩:=opG_sound hT o h hid
      exact fact_step hf hd hs (fun R' φ' a' w' hs' he=>hnext R' φ' a' w' _ hk hs' he)
  · obtain ⟨v,upd,c,hk,hf⟩:=opG_sound hT o h hid
    exact fact_step hf hd hs (fun R' φ' a' w' hs' he=>hnext R' φ' a' w' _ hk hs' he)
theorem seq_sound {ops:Array Oper} {Q:Exit→Act→World→Prop}:∀ (os:List Oper) (k:Nat) (st:St) (K:St→Prop) (R:Prot) (φ:Place) (a:Act) (w:World),
    awpSeq P T ops os st K→(∀ i o,os[i]? = some o→ops[k + i]? = some o)→os.all (dstB · st.n) = true→Sat R φ st a w→
    (∀ R' φ' st' a' w',K st'→Sat R' φ' st' a' w'→Ext st R φ w st' R' φ' w'→Q .normal a' w')→wpOps P ops Q (List.range' k os.length) a w
  | [],k,st,K,R,φ,a,w,h,_,_,hs,hQ=>by
    simp only [List.length_nil,List.range'_zero,wpOps]
    exact hQ R φ st a w h hs (Ext.refl _ _ _ _)
  | o :: r,k,st,K,R,φ,a,w,h,hi,hd,hs,hQ=>by
    simp only [awpSeq] at h
    simp only [List.all_cons,Bool.and_eq_true] at hd
    have h0:=hi 0 o rfl
    simp only [Nat.add_zero] at h0
    simp only [List.length_cons,List.range'_succ,wpOps,h0]
    refine seqOp_sound hT h hd.1 hs ?_
    intro R' φ' a' w' st' hk hs' he
    exact seq_sound r (k + 1) _ K R' φ' a' w' hk (fun i o' ho'=>by have:=hi (i + 1) o' (by simpa using ho');rw [show k + 1 + i = k + (i + 1) by omega];exact this) (by rw [he.n];exact hd.2) hs'
      (fun R2 φ2 st2 a2 w2 hk2 hs2 he2=>hQ R2 φ2 st2 a2 w2 hk2 hs2 (he.trans he2))
end
end Go.Fw

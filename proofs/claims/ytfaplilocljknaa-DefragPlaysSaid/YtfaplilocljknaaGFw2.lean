import Derived.Test.YtfaplilocljknaaGFw1
import Derived.IntWalk
set_option linter.all false
namespace Go.Fw
abbrev ChOK (φ:Place) (R:Prot) (w:World) (lk:Heap) (a:AV):Prop:=∀ id c,a.has id = true→lk id = some c→ChunkRel φ R w id c
abbrev From (lk:Heap) (a:AV) (id:Nat):Prop:=a.has id = true∨∃ j cs,a.has j = true∧lk j = some (.box cs)∧AV.hasAny id cs = true
theorem getD_eq {α:Type} (xs:List α) (i:Nat) (d:α) (h:i < xs.length):xs.getD i d = xs[i]:=by simp [List.getD,h]
section
variable {P:Program} {T:Tab} (hT:tabOK P T = true)
include hT
theorem loadV_sound {lk:Heap} {t:TypeId} {a:AV} {K:AV→Prop} (h:loadV T lk t a K) :
    ∃ v,K v∧(∀ id,v.has id = true→From lk a id)∧∀ φ R w u0,RepV φ R w a u0→ChOK φ R w lk a→∃ u,RepV φ R w v u∧(Instr.loadAt t u0).run P w = .ok u w:=by
  unfold loadV at h
  split at h
  · rename_i cs off
    obtain ⟨v,hk,hn,hs⟩:=load_sound hT h
    refine ⟨v,hk,fun id hid=>.inl (by simp [AV.has,hn id hid]),fun φ R w u0 hr hc=>?_⟩
    simp only [RepV] at hr
    obtain ⟨b,base,us,rfl,hcell,hr⟩:=hr
    exact hs φ R w us b base hr (fun i v hv=>(hcell i v hv).2)
  · rename_i id off
    split at h
    · rename_i cs hlk
      obtain ⟨v,hk,hn,hs⟩:=load_sound hT h
      refine ⟨v,hk,fun id' hid=>.inr ⟨id,cs,by simp [AV.has],hlk,hn id' hid⟩,fun φ R w u0 hr hc=>?_⟩
      simp only [RepV] at hr
      obtain ⟨b,cap,hφ,rfl⟩:=hr
      obtain ⟨b',cap',vs,e,fr,hφ',hh,hrs,_⟩:=hc id _ (by simp [AV.has]) hlk
      rw [hφ] at hφ'
      simp only [Option.some.injEq,Prod.mk.injEq] at hφ'
      obtain ⟨rfl,rfl⟩:=hφ'
      have:=hs φ R w vs.toList b 0 hrs (fun i v hv=>by simp only [World.cell?,hh];simpa using hv)
      simpa using this
    · exact h.elim
  · rename_i id sz i off
    split at h
    · rename_i ty xs hlk
      split at h
      · rename_i hsz
        have hsz:=Nat.eq_of_beq_eq_true hsz
        obtain ⟨hi,h⟩:=h
        obtain ⟨v,hk,hn,hs⟩:=load_sound hT h
        refine ⟨v,hk,fun id' hid=>by have:=hn id' hid;rw [hasAny_explode] at this;simp at this,fun φ R w u0 hr hc=>?_⟩
        simp only [RepV] at hr
        obtain ⟨b,cap,hφ,rfl⟩:=hr
        rcases hc id _ (by simp [AV.has]) hlk with ⟨h1,h2⟩|⟨b',cap',vs,e,fr,hφ',hh,hlen,hcap,hel,_⟩
        · rw [hφ] at h1;simp at h1
        · rw [hφ] at hφ'
          simp only [Option.some.injEq,Prod.mk.injEq] at hφ'
          obtain ⟨rfl,rfl⟩:=hφ'
          have hrep:=(hel i hi).explode (φ:=φ)
          rw [getD_eq xs i _ hi] at hs
          rw [hsz]
          exact hs φ R w _ b (i * ty.size) hrep (fun j v hv=>by
            simp only [World.cell?,hh]
            rw [List.getElem?_take] at hv
            split at hv
            · rw [List.getElem?_drop] at hv;simpa using hv
            · simp at hv)
      · exact h.elim
    · exact h.elim
  · exact h.elim
theorem run_bytes_cells (w:World) (b o:Nat) (xs:List Int) (n cap:Nat) (hn:xs.length = n) (hc:∀ i (h:i < xs.length),w.cell? ⟨b,o + i,none⟩ = some (.int .u8 xs[i])) :
    (Conv.bytesToString (.slice (some ⟨b,o,none⟩) n cap)).run P w = .ok (.string (bs (xs.map byteOf))) w:=by
  subst hn
  have hl:(loadCells ⟨b,o,none⟩ xs.length).run P w = .ok (xs.map (Value.int .u8)).toArray w:=by
    have:=run_loadCells_list (P:=P) w ⟨b,o,none⟩ (xs.map (Value.int .u8)) (fun j v hj=>by
      rw [Addr.add_lit]
      simp only [List.getElem?_map,Option.map_eq_some_iff] at hj
      obtain ⟨x,hx,rfl⟩:=hj
      obtain ⟨hjl,rfl⟩:=List.getElem?_eq_some_iff.1 hx
      exact hc j hjl)
    simpa using this
  rw [run_bytesToString w _ _ _ xs (by simpa using hl)]
  congr 2
  have key:∀ (ys:List Int) (acc:ByteArray),ys.foldl (fun r n=>r.push (UInt8.ofNat n.toNat)) acc = acc ++ bs (ys.map byteOf):=by
    intro ys
    induction ys with
    | nil=>intro acc;apply ByteArray.ext;simp [bs,ByteArray.data_append]
    | cons y ys ih=>
      intro acc
      simp only [List.foldl_cons,ih,List.map_cons]
      apply ByteArray.ext
      simp [bs,ByteArray.data_append,ByteArray.data_push,byteOf]
  rw [key]
  apply ByteArray.ext
  simp [bs,ByteArray.data_append]
theorem convV_sound {lk:Heap} {src dst:TypeId} {x:AV} {K:AV→Prop} (h:convV T lk src dst x K) :
    ∃ v,K v∧(∀ id,v.has id = false)∧∀ φ R w u0,RepV φ R w x u0→ChOK φ R w lk x→∃ u,RepV φ R w v u∧(convert src dst u0).run P w = .ok u w:=by
  unfold convV at h
  split at h
  · rename_i s d hs hd
    obtain ⟨ds,hds,_⟩:=tab_k hT hs
    split at h
    · rename_i _ k _ n hk
      refine ⟨_,h,by simp [AV.has],fun φ R w u0 hr _=>?_⟩
      simp only [RepV] at hr;subst hr
      exact ⟨_,rfl,by simp [convert,run_underlying hds,run_underlying (tk_int hT hd hk),Conv.intToInt]⟩
    · rename_i str hk
      refine ⟨_,h,by simp [AV.has],fun φ R w u0 hr _=>?_⟩
      simp only [RepV] at hr;subst hr
      refine ⟨_,rfl,?_⟩
      simp only [convert,Sem.run_bind,run_underlying hds,run_underlying (tk_str hT hd hk),Result.andThen_ok,Sem.run_pure]
    · rename_i e v hk hk2 hneg
      have hus:=tk_slice hT hs hk
      have hud:=tk_str hT hd hk2
      split at h
      · rename_i ee hee
        split at h
        · rename_i hk3
          have hue:=tk_int hT hee hk3
          have hconv:∀ (w:World) (a:Option Addr) (n c:Nat),(convert src dst (.slice a n c)).run P w = (Conv.bytesToString (.slice a n c)).run P w:=by
            intro w a n c
            simp only [convert,Sem.run_bind,run_underlying hus,run_underlying hud,Result.andThen_ok,run_underlying hue]
          split at h
          · rename_i xs
            refine ⟨_,h,by simp [AV.has],fun φ R w u0 hr _=>?_⟩
            simp only [RepV,Rep] at hr
            obtain ⟨p,cap,he,hcap,hr⟩:=hr
            simp only [List.cons.injEq,and_true] at he
            subst he
            refine ⟨_,rfl,?_⟩
            rw [hconv]
            rcases hr with ⟨rfl,rfl⟩|⟨b,o,rfl,hr⟩
            · cases p with
              | none=>simp [Conv.bytesToString,bs];rfl
              | some a=>rw [run_bytesToString w a _ _ [] (by simp [loadCells,loadCellsFrom])];rfl
            · exact run_bytes_cells hT w b o xs _ cap rfl (fun i hi=>by
                obtain ⟨us,hl,hc,rfl⟩:=hr i hi
                have:=(hc 0 _ (by simp;rfl)).2
                simpa [Ty.size] using this)
          · refine ⟨_,h,by simp [AV.has],fun φ R w u0 hr _=>?_⟩
            simp only [RepV] at hr;subst hr
            refine ⟨_,rfl,?_⟩
            rw [hconv]
            simp [Conv.bytesToString,bs];rfl
          · rename_i id n
            split at h
            · rename_i xs hlk
              refine ⟨_,h.2,by simp [AV.has],fun φ R w u0 hr hc=>?_⟩
              have hc:=hc id _ (by simp [AV.has]) hlk
              simp only [RepV] at hr
              refine ⟨_,rfl,?_⟩
              rcases hr with ⟨h1,rfl,rfl⟩|⟨b,cap,hφ,_,rfl⟩
              · rw [hconv];simp [Conv.bytesToString,bs];rfl
              · rw [hconv]
                rcases hc with ⟨h1,h2⟩|⟨b',cap',vs,e,fr,hφ',hh,hlen,hcap,hel,_⟩
                · rw [hφ] at h1;simp at h1
                · rw [hφ] at hφ'
                  simp only [Option.some.injEq,Prod.mk.injEq] at hφ'
                  obtain ⟨rfl,rfl⟩:=hφ'
                  exact run_bytes_cells hT w b 0 (xs.take n) n cap (by have:=h.1;simp;omega) (fun i hi=>by
                    simp only [List.length_take] at hi
                    have hel:=hel i (by omega)
                    simp only [Ty.size,Nat.mul_one,Rep] at hel
                    simp only [World.cell?,hh,Nat.zero_add]
                    have:(vs.toList.drop i).take 1 = [Value.int .u8 xs[i]]:=hel
                    have h0:=congrArg (fun l=>l[0]?) this
                    simp only [List.getElem?_take,List.getElem?_drop] at h0
                    simpa using h0)
            · exact h.elim
          · exact h.elim
        · exact h.elim
      · exact h.elim
    · exact h.elim
  · exact h.elim
def OptRep (φ:Place) (R:Prot) (w:World):Option AV→Option Value→Prop
  | none,u=>u = none
  | some a,u=>∃ v,u = some v∧RepV φ R w a v
omit hT in
theorem boundI_sound {d:Int} {x:Option AV} {K:Int→Prop} (h:boundI d x K):∃ n,K n∧((x = none∧n = d)∨∃ k,x = some (.int k n)):=by
  unfold boundI at h
  split at h
  · exact ⟨_,h,.inl ⟨rfl,rfl⟩⟩
  · exact ⟨_,h,.inr ⟨_,rfl⟩⟩
  · exact h.elim
omit hT in
theorem sliceBounds_run {φ:Place} {R:Prot} {w:World} {isS:Bool} {len cap:Nat} {lo hi:Option AV} {l r:Int} {ulo uhi:Option Value}
    (hl:(lo = none∧l = 0)∨∃ k,lo = some (.int k l)) (hr:(hi = none∧r = len)∨∃ k,hi = some (.int k r)) (h0:0≤l) (h1:l≤r) (h2:r≤cap)
    (ul:OptRep φ R w lo ulo) (ur:OptRep φ R w hi uhi):(Instr.sliceBounds isS len cap ulo uhi none).run P w = .ok (l.toNat,r.toNat,cap) w:=by
  have key:∀ (k:IntKind) (x:Int) (y:Nat) (code:BoundsCode),0≤x→x≤y→(Instr.sliceBound (.int k x) y code).run P w = .ok x.toNat w:=by
    intro k x y code h0 h1
    simp only [Instr.sliceBound,asIntOf,Sem.run_bind,Sem.run_pure,Result.andThen_ok]
    rw [if_pos ⟨h0,h1⟩]
    rfl
  have hu:∃ uh,uhi = uh∧True:=⟨_,rfl,trivial⟩
  rcases hr with ⟨rfl,rfl⟩|⟨k,rfl⟩
  · simp only [OptRep] at ur
    subst ur
    rcases hl with ⟨rfl,rfl⟩|⟨k,rfl⟩
    · simp only [OptRep] at ul
      subst ul
      simp [Instr.sliceBounds]
    · simp only [OptRep,RepV] at ul
      obtain ⟨_,rfl,rfl⟩:=ul
      simp only [Instr.sliceBounds,Sem.run_bind,Sem.run_pure,Result.andThen_ok]
      rw [key k l len _ h0 h1]
      simp
  · simp only [OptRep,RepV] at ur
    obtain ⟨_,rfl,rfl⟩:=ur
    rcases hl with ⟨rfl,rfl⟩|⟨k',rfl⟩
    · simp only [OptRep] at ul
      subst ul
      simp only [Instr.sliceBounds,Sem.run_bind,Sem.run_pure,Result.andThen_ok]
      rw [key k r cap _ (by omega) h2]
      simp
    · simp only [OptRep,RepV] at ul
      obtain ⟨_,rfl,rfl⟩:=ul
      simp only [Instr.sliceBounds,Sem.run_bind,Sem.run_pure,Result.andThen_ok]
      rw [key k r cap _ (by omega) h2]
      simp only [Result.andThen_ok,Sem.run_bind]
      rw [key k' l r.toNat _ h0 (by omega)]
      simp
theorem sliceV_sound {t:TypeId} {x:AV} {lo hi:Option AV} {K:AV→Prop} (h:sliceV T t x lo hi K) :
    ∃ v,K v∧(∀ id,v.has id = true→x.has id = true)∧∀ φ R w u0 ulo uhi,RepV φ R w x u0→OptRep φ R w lo ulo→OptRep φ R w hi uhi→
      ∃ u,RepV φ R w v u∧(Instr.sliceAt t u0 ulo uhi none).run P w = .ok u w:=by
  unfold sliceV at h
  split at h
  · rename_i e he
    split at h
    · rename_i s hk
      obtain ⟨l,h,hl⟩:=boundI_sound h
      obtain ⟨r,h,hr⟩:=boundI_sound h
      refine ⟨_,h.2,by simp [AV.has],fun φ R w u0 ulo uhi hx h1 h2=>?_⟩
      simp only [RepV] at hx;subst hx
      refine ⟨_,rfl,?_⟩
      have hd:=tk_str hT he hk
      have hb:=sliceBounds_run (P:=P) (isS:=false) (len:=s.length) (cap:=s.length) hl hr h.1.1 h.1.2.1 h.1.2.2 h1 h2
      simp only [Instr.sliceAt,Instr.slice,Sem.run_bind,run_underlying hd,Result.andThen_ok,bs_size,hb,Option.isSome_none,Bool.false_eq_true,if_false,Sem.run_pure,bs_extract]
    · rename_i et ty xs hk
      split at h
      · rename_i ee hee
        split at h
        · rename_i hsz
          have hsz:=Nat.eq_of_beq_eq_true hsz
          obtain ⟨l,h,hl⟩:=boundI_sound h
          obtain ⟨r,h,hr⟩:=boundI_sound h
          obtain ⟨⟨h0,hlr,hrn⟩,h⟩:=h
          refine ⟨_,h,by simp [AV.has],fun φ R w u0 ulo uhi hx h1 h2=>?_⟩
          simp only [RepV,Rep] at hx
          obtain ⟨p,cap,hp,hcap,hx⟩:=hx
          simp only [List.cons.injEq,and_true] at hp
          subst hp
          have hd:=tk_slice hT he hk
          have hb:=sliceBounds_run (P:=P) (isS:=true) (len:=xs.length) (cap:=cap) hl hr h0 hlr (by omega) h1 h2
          have hrun:(Instr.sliceAt t (.slice p xs.length cap) ulo uhi none).run P w =
              .ok (.slice (if cap = l.toNat then p else p.map (·.add (l.toNat * ee.size))) (r.toNat - l.toNat) (cap - l.toNat)) w:=by
            simp only [Instr.sliceAt,Instr.slice,Sem.run_bind,run_underlying hd,Result.andThen_ok,hb,run_sizeOf_tab hT hee,Sem.run_pure]
          refine ⟨_,?_,hrun⟩
          simp only [RepV,Rep]
          have hlen:((xs.take r.toNat).drop l.toNat).length = r.toNat - l.toNat:=by simp;omega
          refine ⟨_,_,by rw [hlen],by omega,?_⟩
          rcases hx with ⟨rfl,rfl⟩|⟨b,o,rfl,hx⟩
          · left
            exact ⟨by simp,by omega⟩
          · right
            by_cases hcl:cap = l.toNat
            · refine ⟨b,o,by rw [if_pos hcl],fun i hi=>?_⟩
              rw [hlen] at hi
              omega
            · refine ⟨b,o + l.toNat * ee.size,by rw [if_neg hcl];simp [Addr.add_lit],fun i hi=>?_⟩
              rw [hlen] at hi
              obtain ⟨us,hul,hc,hrep⟩:=hx (l.toNat + i) (by omega)
              refine ⟨us,hul,?_,?_⟩
              · rw [hsz]
                rw [Nat.add_mul,← Nat.add_assoc] at hc
                exact hc
              · simpa [List.getElem_drop,List.getElem_take] using hrep
        · exact h.elim
      · exact h.elim
    · rename_i et id n hk
      split at h
      · rename_i hee
        obtain ⟨r,h,hr⟩:=boundI_sound h
        obtain ⟨⟨h0,hrn⟩,h⟩:=h
        refine ⟨_,h,fun id' hid=>by simpa [AV.has] using hid,fun φ R w u0 ulo uhi hx h1 h2=>?_⟩
        simp only [RepV] at hx
        have hd:=tk_slice hT he hk
        rcases hx with ⟨hφ,rfl,rfl⟩|⟨b,cap,hφ,hcap,rfl⟩
        · have hb:=sliceBounds_run (P:=P) (isS:=true) (len:=0) (cap:=0) (.inl ⟨rfl,rfl⟩) hr (Int.le_refl _) h0 (by simpa using hrn) h1 h2
          have:r = 0:=by omega
          subst this
          refine ⟨.slice none 0 0,.inl ⟨hφ,rfl,rfl⟩,?_⟩
          simp only [Instr.sliceAt,Instr.slice,Sem.run_bind,run_underlying hd,Result.andThen_ok,hb,run_sizeOf_tab hT hee,Sem.run_pure]
          simp
        · have hb:=sliceBounds_run (P:=P) (isS:=true) (len:=n) (cap:=cap) (.inl ⟨rfl,rfl⟩) hr (Int.le_refl _) h0 (by omega) h1 h2
          refine ⟨.slice (some ⟨b,0,none⟩) r.toNat cap,.inr ⟨b,cap,hφ,by omega,rfl⟩,?_⟩
          simp only [Instr.sliceAt,Instr.slice,Sem.run_bind,run_underlying hd,Result.andThen_ok,hb,run_sizeOf_tab hT hee,Sem.run_pure]
          simp [Addr.add]
      · exact h.elim
    · rename_i et hk
      split at h
      · rename_i hee
        obtain ⟨l,h1,hl⟩:=boundI_sound h
        obtain ⟨r,h2,hr⟩:=boundI_sound h1
        obtain ⟨⟨e1,e2⟩,hK⟩:=h2
        subst e1;subst e2
        refine ⟨_,hK,fun id' hid=>by simpa [AV.has] using hid,fun φ R w u0 ulo uhi hx h1 h2=>?_⟩
        simp only [RepV] at hx
        subst hx
        have hd:=tk_slice hT he hk
        have hb:=sliceBounds_run (P:=P) (isS:=true) (len:=0) (cap:=0) hl hr (Int.le_refl _) (Int.le_refl _) (Int.le_refl _) h1 h2
        refine ⟨_,rfl,?_⟩
        simp only [Instr.sliceAt,Instr.slice,Sem.run_bind,run_underlying hd,Result.andThen_ok,hb,run_sizeOf_tab hT hee,Sem.run_pure]
        simp
      · exact h.elim
    · exact h.elim
  · exact h.elim
omit hT in
theorem sliceBounds_run3 {φ:Place} {R:Prot} {w:World} {isS:Bool} {len cap:Nat} {lo:Option AV} {l r m:Int} {k1 k2:IntKind} {ulo:Option Value}
    (hl:(lo = none∧l = 0)∨∃ k,lo = some (.int k l)) (h0:0≤l) (h1:l≤r) (h2:r≤m) (h3:m≤cap)
    (ul:OptRep φ R w lo ulo):(Instr.sliceBounds isS len cap ulo (some (.int k1 r)) (some (.int k2 m))).run P w = .ok (l.toNat,r.toNat,m.toNat) w:=by
  have key:∀ (k:IntKind) (x:Int) (y:Nat) (code:BoundsCode),0≤x→x≤y→(Instr.sliceBound (.int k x) y code).run P w = .ok x.toNat w:=by
    intro k x y code h0 h1
    simp only [Instr.sliceBound,asIntOf,Sem.run_bind,Sem.run_pure,Result.andThen_ok]
    rw [if_pos ⟨h0,h1⟩]
    rfl
  rcases hl with ⟨rfl,rfl⟩|⟨k',rfl⟩
  · simp only [OptRep] at ul
    subst ul
    simp only [Instr.sliceBounds,Sem.run_bind,Sem.run_pure,Result.andThen_ok]
    rw [key k2 m cap _ (by omega) h3]
    simp only [Result.andThen_ok,Sem.run_bind]
    rw [key k1 r m.toNat _ (by omega) (by omega)]
    simp
  · simp only [OptRep,RepV] at ul
    obtain ⟨_,rfl,rfl⟩:=ul
    simp only [Instr.sliceBounds,Sem.run_bind,Sem.run_pure,Result.andThen_ok]
    rw [key k2 m cap _ (by omega) h3]
    simp only [Result.andThen_ok,Sem.run_bind]
    rw [key k1 r m.toNat _ (by omega) (by omega)]
    simp only [Result.andThen_ok,Sem.run_bind]
    rw [key k' l r.toNat _ h0 (by omega)]
    simp
theorem slice3V_sound {t:TypeId} {x:AV} {lo:Option AV} {hi mx:AV} {K:AV→Prop} (h:slice3V T t x lo hi mx K) :
    ∃ v,K v∧(∀ id,v.has id = true→x.has id = true)∧∀ φ R w u0 ulo uhi um,RepV φ R w x u0→OptRep φ R w lo ulo→RepV φ R w hi uhi→RepV φ R w mx um→
      ∃ u,RepV φ R w v u∧(Instr.sliceAt t u0 ulo (some uhi) (some um)).run P w = .ok u w:=by
  unfold slice3V at h
  split at h
  · rename_i e he
    split at h
    · rename_i et ty xs hk
      split at h
      · rename_i ee hee
        split at h
        · rename_i hsz
          have hsz:=Nat.eq_of_beq_eq_true hsz
          obtain ⟨l,h,hl⟩:=boundI_sound h
          obtain ⟨r,h,hr⟩:=boundI_sound h
          obtain ⟨m,h,hm⟩:=boundI_sound h
          obtain ⟨⟨h0,hlr,hrm,hmn⟩,h⟩:=h
          refine ⟨_,h,by simp [AV.has],fun φ R w u0 ulo uhi um hx h1 h2 h3=>?_⟩
          simp only [RepV,Rep] at hx
          obtain ⟨p,cap,hp,hcap,hx⟩:=hx
          simp only [List.cons.injEq,and_true] at hp
          subst hp
          have hd:=tk_slice hT he hk
          rcases hr with ⟨hr,_⟩|⟨k1,hr⟩
          · simp at hr
          rcases hm with ⟨hm,_⟩|⟨k2,hm⟩
          · simp at hm
          simp only [Option.some.injEq] at hr hm
          subst hr;subst hm
          simp only [RepV] at h2 h3
          subst h2;subst h3
          have hb:=sliceBounds_run3 (P:=P) (isS:=true) (len:=xs.length) (cap:=cap) (k1:=k1) (k2:=k2) hl h0 hlr hrm (by omega) h1
          have hrun:(Instr.sliceAt t (.slice p xs.length cap) ulo (some (.int k1 r)) (some (.int k2 m))).run P w =
              .ok (.slice (if m.toNat = l.toNat then p else p.map (·.add (l.toNat * ee.size))) (r.toNat - l.toNat) (m.toNat - l.toNat)) w:=by
            simp only [Instr.sliceAt,Instr.slice,Sem.run_bind,run_underlying hd,Result.andThen_ok,hb,run_sizeOf_tab hT hee,Sem.run_pure]
          refine ⟨_,?_,hrun⟩
          simp only [RepV,Rep]
          have hlen:((xs.take r.toNat).drop l.toNat).length = r.toNat - l.toNat:=by simp;omega
          refine ⟨_,_,by rw [hlen],by omega,?_⟩
          rcases hx with ⟨rfl,rfl⟩|⟨b,o,rfl,hx⟩
          · left
            simp only [List.length_nil] at hmn
            exact ⟨by simp,by simp at *;omega⟩
          · right
            by_cases hcl:m.toNat = l.toNat
            · refine ⟨b,o,by rw [if_pos hcl],fun i hi=>?_⟩
              rw [hlen] at hi
              omega
            · refine ⟨b,o + l.toNat * ee.size,by rw [if_neg hcl];simp [Addr.add_lit],fun i hi=>?_⟩
              rw [hlen] at hi
              obtain ⟨us,hul,hc,hrep⟩:=hx (l.toNat + i) (by omega)
              refine ⟨us,hul,?_,?_⟩
              · rw [hsz]
                rw [Nat.add_mul,← Nat.add_assoc] at hc
                exact hc
              · simpa [List.getElem_drop,List.getElem_take] using hrep
        · exact h.elim
      · exact h.elim
    · exact h.elim
  · exact h.elim
theorem indexV_sound {t:TypeId} {x y:AV} {K:AV→Prop} (h:indexV T t x y K) :
    ∃ v,K v∧(∀ id,v.has id = true→x.has id = true)∧∀ φ R w u0 u1,RepV φ R w x u0→RepV φ R w y u1→∃ u,RepV φ R w v u∧(Instr.index t u0 u1).run P w = .ok u w:=by
  unfold indexV at h
  split at h
  · rename_i k i
    split at h
    · rename_i e he
      split at h
      · rename_i s hk
        refine ⟨_,h.2,by simp [AV.has],fun φ R w u0 u1 hx hy=>?_⟩
        simp only [RepV] at hx hy
        subst hx;subst hy
        refine ⟨_,rfl,?_⟩
        obtain ⟨h0,h1⟩:=h.1
        rw [run_index_string w t (bs s) k i (tk_str hT he hk)]
        have hi:0≤i∧i < (bs s).size:=⟨h0,by rw [bs_size];omega⟩
        rw [dif_pos hi]
        have hlt:i.toNat < s.length:=by omega
        congr 3
        rw [getD_eq s _ _ hlt]
        simp [bs]
        rfl
      · rename_i n et cs hk
        split at h
        · rename_i ee hee
          obtain ⟨v,hk',hn,hs⟩:=part_sound hT h.2
          refine ⟨v,hk',fun id hid=>by simpa [AV.has] using hn id hid,fun φ R w u0 u1 hx hy=>?_⟩
          simp only [RepV] at hx hy
          obtain ⟨vs,rfl,hx⟩:=hx
          subst hy
          obtain ⟨u,hu,hr⟩:=hs φ R w vs hx
          refine ⟨u,hu,?_⟩
          simp only [Instr.index,asIntOf,Sem.run_bind,Sem.run_pure,Result.andThen_ok,run_underlying (tk_arr hT he hk)]
          rw [if_pos h.1]
          simp only [Sem.run_bind,run_sizeOf_tab hT hee,Result.andThen_ok,hr]
        · exact h.elim
      · exact h.elim
    · exact h.elim
  · exact h.elim
theorem indexAddrV_sound {lk:Heap} {t:TypeId} {x y:AV} {K:AV→Prop} (h:indexAddrV T lk t x y K) :
    ∃ v,K v∧(∀ id,v.has id = true→x.has id = true)∧∀ φ R w u0 u1,RepV φ R w x u0→RepV φ R w y u1→∃ u,RepV φ R w v u∧(Instr.indexAt t u0 u1).run P w = .ok u w:=by
  unfold indexAddrV at h
  split at h
  · rename_i k i
    split at h
    · rename_i e he
      split at h
      · rename_i et ty xs hk
        split at h
        · rename_i ee hee
          split at h
          · rename_i hsz
            have hsz:=Nat.eq_of_beq_eq_true hsz
            obtain ⟨⟨h0,h1⟩,h⟩:=h
            refine ⟨_,h,fun id hid=>by simp only [AV.has,hasAny_explode] at hid;simp at hid,fun φ R w u0 u1 hx hy=>?_⟩
            simp only [RepV,Rep] at hx hy
            obtain ⟨p,cap,hp,hcap,hx⟩:=hx
            simp only [List.cons.injEq,and_true] at hp
            subst hp;subst hy
            rcases hx with ⟨rfl,rfl⟩|⟨b,o,rfl,hx⟩
            · simp at h1;omega
            · have hlt:i.toNat < xs.length:=by omega
              obtain ⟨us,hul,hc,hrep⟩:=hx i.toNat hlt
              refine ⟨.pointer (some ⟨b,o + i.toNat * ty.size,none⟩),?_,?_⟩
              · simp only [RepV]
                rw [getD_eq xs _ _ hlt]
                exact ⟨b,o + i.toNat * ty.size,us,rfl,hc,hrep.explode⟩
              · have hd:=tk_slice hT he hk
                simp only [Instr.indexAt,asIntOf,Sem.run_bind,Sem.run_pure,Result.andThen_ok,run_underlying hd]
                rw [if_pos ⟨h0,by omega⟩]
                simp only [Sem.run_bind,run_sizeOf_tab hT hee,Result.andThen_ok,Sem.run_pure,Addr.add_lit,hsz]
          · exact h.elim
        · exact h.elim
      · rename_i et id n hk
        split at h
        · rename_i ee ty xs hee hlk
          split at h
          · rename_i hsz
            have hsz:=Nat.eq_of_beq_eq_true hsz
            obtain ⟨⟨h0,h1⟩,h⟩:=h
            refine ⟨_,h,fun id hid=>by simpa [AV.has] using hid,fun φ R w u0 u1 hx hy=>?_⟩
            simp only [RepV] at hx hy
            subst hy
            rcases hx with ⟨hφ,rfl,rfl⟩|⟨b,cap,hφ,hcap,rfl⟩
            · simp at h1;omega
            · refine ⟨.pointer (some ⟨b,i.toNat * ty.size + 0,none⟩),?_,?_⟩
              · simp only [RepV]
                exact ⟨b,cap,hφ,rfl⟩
              · have hd:=tk_slice hT he hk
                simp only [Instr.indexAt,asIntOf,Sem.run_bind,Sem.run_pure,Result.andThen_ok,run_underlying hd]
                rw [if_pos ⟨h0,by omega⟩]
                simp only [Sem.run_bind,run_sizeOf_tab hT hee,Result.andThen_ok,Sem.run_pure,Addr.add_lit,hsz,Nat.zero_add,Nat.add_zero]
          · exact h.elim
        · exact h.elim
      · rename_i n et id off hk
        split at h
        · rename_i ee hee
          obtain ⟨⟨h0,h1⟩,h⟩:=h
          refine ⟨_,h,fun id hid=>by simpa [AV.has] using hid,fun φ R w u0 u1 hx hy=>?_⟩
          simp only [RepV] at hx hy
          subst hy
          obtain ⟨b,cap,hφ,rfl⟩:=hx
          refine ⟨_,⟨b,cap,hφ,rfl⟩,?_⟩
          have hd:=tk_arr hT he hk
          simp only [Instr.indexAt,asIntOf,Sem.run_bind,Sem.run_pure,Result.andThen_ok,run_underlying hd,Instr.sureAddr]
          rw [if_pos ⟨h0,by omega⟩]
          simp only [Sem.run_bind,run_sizeOf_tab hT hee,Result.andThen_ok,Sem.run_pure,Addr.add_lit]
        · exact h.elim
      · rename_i n et cs off hk
        split at h
        · rename_i ee hee
          obtain ⟨⟨h0,h1⟩,h⟩:=h
          refine ⟨_,h,fun id hid=>by simpa [AV.has] using hid,fun φ R w u0 u1 hx hy=>?_⟩
          simp only [RepV] at hx hy
          subst hy
          obtain ⟨b,base,us,rfl,hx⟩:=hx
          refine ⟨.pointer (some ⟨b,base + (off + i.toNat * ee.size),none⟩),by simp only [RepV];exact ⟨b,base,us,rfl,hx⟩,?_⟩
          have hd:=tk_arr hT he hk
          simp only [Instr.indexAt,asIntOf,Sem.run_bind,Sem.run_pure,Result.andThen_ok,run_underlying hd,Instr.sureAddr]
          rw [if_pos ⟨h0,by omega⟩]
          simp only [Sem.run_bind,run_sizeOf_tab hT hee,Result.andThen_ok,Sem.run_pure,Addr.add_lit,Nat.add_assoc]
        · exact h.elim
      · exact h.elim
    · exact h.elim
  · exact h.elim
theorem lenV_sound {t:TypeId} {x:AV} {K:AV→Prop} (h:lenV T t x K) :
    ∃ v,K v∧(∀ id,v.has id = false)∧∀ φ R w u0 ty,RepV φ R w x u0→∃ u,RepV φ R w v u∧(Builtin.len_ #[t] ty #[u0]).run P w = .ok u w:=by
  unfold lenV at h
  split at h
  · rename_i e he
    split at h
    · rename_i s hk
      refine ⟨_,h,by simp [AV.has],fun φ R w u0 ty hx=>?_⟩
      simp only [RepV] at hx;subst hx
      exact ⟨_,rfl,by rw [run_len_string w t ty _ (tk_str hT he hk),bs_size];rfl⟩
    · rename_i _ xs hk
      have hd:=tk_slice hT he hk
      refine ⟨_,h,by simp [AV.has],fun φ R w u0 ty hx=>?_⟩
      simp only [RepV,Rep] at hx
      obtain ⟨p,cap,hp,hcap,hx⟩:=hx
      simp only [List.cons.injEq,and_true] at hp
      subst hp
      exact ⟨_,rfl,by simp [Builtin.len_,run_underlying hd,goInt]⟩
    · rename_i hk
      have hd:=tk_slice hT he hk
      refine ⟨_,h,by simp [AV.has],fun φ R w u0 ty hx=>?_⟩
      simp only [RepV] at hx
      rcases hx with ⟨_,rfl,rfl⟩|⟨b,cap,_,_,rfl⟩
      · exact ⟨_,rfl,by simp [Builtin.len_,run_underlying hd,goInt]⟩
      · exact ⟨_,rfl,by simp [Builtin.len_,run_underlying hd,goInt]⟩
    · rename_i hk
      have hd:=tk_slice hT he hk
      refine ⟨_,h,by simp [AV.has],fun φ R w u0 ty hx=>?_⟩
      simp only [RepV] at hx;subst hx
      exact ⟨_,rfl,by simp [Builtin.len_,run_underlying hd,goInt]⟩
    · rename_i n _ _ hk
      have hd:=tk_arr hT he hk
      refine ⟨_,h,by simp [AV.has],fun φ R w u0 ty hx=>?_⟩
      exact ⟨_,rfl,by cases u0 <;> simp [Builtin.len_,run_underlying hd,goInt]⟩
    · exact h.elim
  · exact h.elim
end
end Go.Fw
namespace Go.Fw
theorem AV.cells_rep {φ:Place} {R:Prot} {w:World} {v:AV} {cs:List AV} {u:Value} (h:v.cells = some cs) (hu:RepV φ R w v u):RepVs φ R w cs u.cells.toList:=by
  cases v <;> simp only [AV.cells,Option.some.injEq,reduceCtorEq] at h <;> subst h <;> simp only [RepV] at hu
  · subst hu;simp [RepVs,RepV,Value.cells]
  · subst hu;simp [RepVs,RepV,Value.cells]
  · subst hu;simp [RepVs,RepV,Value.cells]
  · have hu':=hu
    simp only [Rep] at hu'
    obtain ⟨p,cap,hp,_⟩:=hu'
    simp only [List.cons.injEq,and_true] at hp
    subst hp
    simp only [RepVs,Value.cells]
    exact ⟨_,[],rfl,by simpa [RepV] using hu,rfl⟩
  · obtain ⟨vs,rfl,hu⟩:=hu
    simpa [Value.cells] using hu
  · have hu':=hu
    obtain ⟨b,base,us,rfl,_⟩:=hu'
    simp only [RepVs,Value.cells]
    exact ⟨_,[],rfl,by simp only [RepV];exact hu,rfl⟩
  · have hu':=hu
    obtain ⟨b,cap,_,rfl⟩:=hu'
    simp only [RepVs,Value.cells]
    exact ⟨_,[],rfl,by simp only [RepV];exact hu,rfl⟩
  · have hu':=hu
    rcases hu' with ⟨_,_,rfl⟩|⟨b,cap,_,_,rfl⟩ <;> simp only [RepVs,Value.cells] <;> exact ⟨_,[],rfl,by unfold RepV;exact hu,rfl⟩
  · have hu':=hu
    obtain ⟨b,cap,_,rfl⟩:=hu'
    simp only [RepVs,Value.cells]
    exact ⟨_,[],rfl,by simp only [RepV];exact hu,rfl⟩
  · subst hu;simp [RepVs,RepV,Value.cells]
  · subst hu;simp [RepVs,RepV,Value.cells]
  · subst hu;simp [RepVs,RepV,Value.cells]
  · have hu':=hu
    obtain ⟨vs,rfl,_⟩:=hu'
    simp only [RepVs,Value.cells]
    exact ⟨_,[],rfl,by simp only [RepV];exact hu,rfl⟩
  · have hu':=hu
    obtain ⟨b,rfl,_⟩:=hu'
    simp only [RepVs,Value.cells]
    exact ⟨_,[],rfl,by simp only [RepV];exact hu,rfl⟩
  · rename_i X
    have h1:=X.one hu
    have hc:u.cells = #[u]:=by cases u <;> simp_all [Value.cells,Value.oneCell']
    rw [hc]
    simp only [RepVs]
    exact ⟨_,[],rfl,by simp only [RepV];exact hu,rfl⟩
theorem AV.cells_has {v:AV} {cs:List AV} (h:v.cells = some cs) (id:Nat):AV.hasAny id cs = v.has id:=by
  cases v <;> simp only [AV.cells,Option.some.injEq,reduceCtorEq] at h <;> subst h <;> simp [AV.hasAny,AV.has]
theorem foldl_set (off:Nat):∀ (l:List Value) (j:Nat) (cells:Array Value),off + j + l.length≤cells.size→
    ((l.zipIdx j).foldl (fun cs (x:Value × Nat)=>cs.setIfInBounds (off + x.2) x.1) cells).toList = cells.toList.take (off + j) ++ l ++ cells.toList.drop (off + j + l.length)
  | [],j,cells,h=>by simp
  | v :: l,j,cells,h=>by
    simp only [List.length_cons] at h
    simp only [List.zipIdx_cons,List.foldl_cons]
    rw [foldl_set off l (j + 1) _ (by simp;omega)]
    have hlt:off + j < cells.toList.length:=by simp;omega
    simp only [Array.toList_setIfInBounds,List.length_cons]
    rw [show off + (j + 1) = off + j + 1 by omega,show off + j + 1 + l.length = off + j + (l.length + 1) by omega]
    have e1:(cells.toList.set (off + j) v).take (off + j + 1) = cells.toList.take (off + j) ++ [v]:=by
      rw [List.take_add_one,List.take_set_of_le (Nat.le_refl _),List.getElem?_set_self hlt]
      rfl
    have e2:(cells.toList.set (off + j) v).drop (off + j + (l.length + 1)) = cells.toList.drop (off + j + (l.length + 1)):=by
      rw [List.drop_set_of_lt (by omega)]
    rw [e1,e2]
    simp
theorem fill_sound {φ:Place} {R:Prot} {w:World} {place:Nat→Option (Nat × Nat)} {ev:Operand→AV} {ρ:Operand→Value}:∀ (parts:List (Nat × Operand)) (cs cs':List AV) (us:Array Value),
    fillCells place (parts.map fun p=>(p.1,ev p.2)) cs = some cs'→RepVs φ R w cs us.toList→(∀ p∈parts,RepV φ R w (ev p.2) (ρ p.2))→
    ∃ us',Instr.fill place us (parts.map fun p=>(p.1,ρ p.2)) = some us'∧RepVs φ R w cs' us'.toList
  | [],cs,cs',us,h,hr,_=>by
    simp only [List.map_nil,fillCells,Option.some.injEq] at h
    subst h
    exact ⟨us,rfl,hr⟩
  | (i,x) :: r,cs,cs',us,h,hr,hp=>by
    have hv:=hp (i,x) (List.mem_cons_self ..)
    simp only [List.map_cons,fillCells] at h
    split at h
    · rename_i off size vs hpl hcs
      split at h
      · rename_i h1 h2
        have h1:=Nat.eq_of_beq_eq_true h1
        have h2:=Nat.le_of_ble_eq_true h2
        have hvr:=AV.cells_rep hcs hv
        have hl1:=hvr.length
        have hl2:=hr.length
        simp only [Array.length_toList] at hl1 hl2
        have hf:=foldl_set off (ρ x).cells.toList 0 us (by simp;omega)
        have hfold:((ρ x).cells.zipIdx.foldl (fun cs (x:Value × Nat)=>cs.setIfInBounds (off + x.2) x.1) us).toList = us.toList.take off ++ (ρ x).cells.toList ++ us.toList.drop (off + size):=by
          rw [← Array.foldl_toList,Array.toList_zipIdx,hf]
          simp [hl1,h1]
        obtain ⟨us',hu1,hu2⟩:=fill_sound r _ cs' _ h (by
          rw [hfold]
          exact RepVs.append (RepVs.append (RepVs.take _ hr) hvr) (RepVs.drop _ hr)) (fun p hp'=>hp p (List.mem_cons_of_mem _ hp'))
        refine ⟨us',?_,hu2⟩
        simp only [List.map_cons,Instr.fill,hpl]
        rw [if_neg (by simp;omega)]
        exact hu1
      · simp at h
    · simp at h
theorem foldInts_sound {φ:Place} {R:Prot} {w:World} {P:Program} {k:IntKind} {f:Int→Int→Int} {g:Value→Value→Sem Value}
    (hg:∀ x y,(g (.int k x) (.int k y)).run P w = .ok (.int k (f x y)) w):∀ (as:List AV) (x r:Int) (us:List Value),foldInts f k x as = some r→RepVs φ R w as us→
    (us.foldlM g (.int k x)).run P w = .ok (.int k r) w
  | [],x,r,us,h,hr=>by
    simp only [foldInts,Option.some.injEq] at h
    simp only [RepVs] at hr
    subst h;subst hr
    rfl
  | a :: as,x,r,us,h,hr=>by
    unfold foldInts at h
    split at h
    · simp_all
    · rename_i _ _ k' y r' heq1
      split at h
      · rename_i hk
        subst hk
        simp only [List.cons.injEq] at heq1
        obtain ⟨rfl,rfl⟩:=heq1
        simp only [RepVs,RepV] at hr
        obtain ⟨u,us,rfl,rfl,hr⟩:=hr
        simp only [List.foldlM_cons,Sem.run_bind,hg,Result.andThen_ok]
        exact foldInts_sound hg as _ r us h hr
      · simp at h
    · simp at h
theorem repVs_map {φ:Place} {R:Prot} {w:World} {α:Type} (f:α→AV) (g:α→Value):∀ (l:List α),(∀ x∈l,RepV φ R w (f x) (g x))→RepVs φ R w (l.map f) (l.map g)
  | [],_=>by simp [RepVs]
  | x :: l,h=>⟨_,_,rfl,h x (List.mem_cons_self ..),repVs_map f g l fun y hy=>h y (List.mem_cons_of_mem _ hy)⟩
theorem hasAny_map {α:Type} (f:α→AV) (id:Nat):∀ (l:List α),AV.hasAny id (l.map f) = true→∃ x∈l,(f x).has id = true
  | [],h=>by simp [AV.hasAny] at h
  | x :: l,h=>by
    simp only [List.map_cons,AV.hasAny,Bool.or_eq_true] at h
    rcases h with h|h
    · exact ⟨x,List.mem_cons_self ..,h⟩
    · obtain ⟨y,hy,h⟩:=hasAny_map f id l h
      exact ⟨y,List.mem_cons_of_mem _ hy,h⟩
theorem zeroChk_rep {φ:Place} {R:Prot} {w:World}:∀ {as:List AV} {vs:List Value},zeroChk as vs = true→RepVs φ R w as vs:=by
  intro as vs h
  fun_induction zeroChk as vs <;> simp_all [RepVs,RepV]
  all_goals first|exact ⟨_,_,⟨rfl,rfl⟩,rfl,by assumption⟩|exact ⟨_,_,⟨rfl,rfl⟩,by assumption⟩
theorem zeroChk_has {id:Nat}:∀ {as:List AV} {vs:List Value},zeroChk as vs = true→AV.hasAny id as = false:=by
  intro as vs h
  fun_induction zeroChk as vs <;> simp_all [AV.hasAny,AV.has]
theorem fillCells_has {place:Nat→Option (Nat × Nat)} {id:Nat}:∀ (parts:List (Nat × AV)) (cs cs':List AV),fillCells place parts cs = some cs'→AV.hasAny id cs' = true→
    AV.hasAny id cs = true∨∃ x∈parts,x.2.has id = true
  | [],cs,cs',h,hh=>by
    simp only [fillCells,Option.some.injEq] at h
    subst h;exact .inl hh
  | (i,v) :: r,cs,cs',h,hh=>by
    simp only [fillCells] at h
    split at h
    · rename_i off size vs hpl hcs
      split at h
      · rcases fillCells_has r _ cs' h hh with h1|⟨x,hx,h1⟩
        · simp only [hasAny_append,Bool.or_eq_true] at h1
          rcases h1 with (h1|h1)|h1
          · exact .inl (hasAny_take _ _ h1)
          · rw [AV.cells_has hcs] at h1
            exact .inr ⟨_,List.mem_cons_self ..,h1⟩
          · exact .inl (hasAny_drop _ _ h1)
        · exact .inr ⟨x,List.mem_cons_of_mem _ hx,h1⟩
      · simp at h
    · simp at h
section
variable {P:Program} {T:Tab} (hT:tabOK P T = true)
include hT
theorem tab_zero {t:TypeId} {e:TE} (h:tget T t = some e):∃ i v,P.info? t = some i∧i.zero = some v∧zeroChk e.zero v.cells.toList = true∧(e.agg = true→∃ vs,v = .agg vs∧vs.size = e.size):=by
  obtain ⟨i,d,hi,hd,_,_,_,_,_,hz⟩:=(tab_ok hT h).ex
  rcases hz with ⟨vs,hz,ha,hc,hs⟩|⟨v,hz,h1,hc,ha,hc2,hs⟩
  · exact ⟨i,_,hi,hz,by simpa [Value.cells] using hc,fun _=>⟨vs,rfl,hs⟩⟩
  · exact ⟨i,v,hi,hz,by rw [hc];exact hc2,fun h=>by simp [ha] at h⟩
theorem run_zeroValue_tab {t:TypeId} {e:TE} (h:tget T t = some e):∃ v,(∀ w,(zeroValue t).run P w = .ok v w)∧zeroChk e.zero v.cells.toList = true∧(e.agg = true→∃ vs,v = .agg vs∧vs.size = e.size):=by
  obtain ⟨i,v,hi,hz,hc,ha⟩:=tab_zero hT h
  exact ⟨v,fun w=>by simp [zeroValue,typeInfo,hi,hz],hc,ha⟩
theorem run_fieldAt {t ft:TypeId} {e fe:TE} {fs:List (Nat × TypeId)} {f off:Nat} (he:tget T t = some e) (hk:e.k = .struct fs) (hf:fs[f]? = some (off,ft)) (hfe:tget T ft = some fe)
    (h0:fe.size≠0) (w:World) (b o:Nat):(Instr.fieldAt t (.pointer (some ⟨b,o,none⟩)) f).run P w = .ok (.pointer (some ⟨b,o + off,none⟩)) w:=by
  obtain ⟨fields,hd,hfs,_⟩:=tk_struct hT he hk
  subst hfs
  simp only [List.getElem?_map,Option.map_eq_some_iff] at hf
  obtain ⟨fld,hfl,hfe'⟩:=hf
  simp only [Prod.mk.injEq] at hfe'
  obtain ⟨rfl,rfl⟩:=hfe'
  have hfl':fields[f]? = some fld:=by simpa using hfl
  simp [Instr.fieldAt,run_underlying hd,hfl',Instr.sureAddr,fieldPlace,run_sizeOf_tab hT hfe,h0,Addr.add_lit]
omit hT in
theorem run_mapM_ok {α β:Type} {w:World} (g:α→Sem β) (f:α→β) (xs:Array α) (h:∀ x∈xs,(g x).run P w = .ok (f x) w):(xs.mapM g).run P w = .ok (xs.map f) w:=by
  rw [Array.mapM_eq_mapM_toList]
  have key:∀ l:List α,(∀ x∈l,(g x).run P w = .ok (f x) w)→(l.mapM g).run P w = .ok (l.map f) w:=by
    intro l
    induction l with
    | nil=>intro _;rfl
    | cons x l ih=>
      intro h
      simp only [List.mapM_cons,Sem.run_bind,h x (List.mem_cons_self ..),Result.andThen_ok,ih (fun y hy=>h y (List.mem_cons_of_mem _ hy)),Sem.run_pure,List.map_cons]
  rw [Sem.run_map,key _ (fun x hx=>h x (by simpa using hx))]
  simp only [Result.andThen_ok]
  congr 1
  apply Array.ext'
  simp
theorem pureV_sound {lk:Heap} {ev:Operand→AV} {op:Op} {K:AV→Prop} (h:pureV T lk ev op K) :
    ∃ v,K v∧(∀ id,v.has id = true→∃ x∈op.operands,From lk (ev x) id)∧∀ φ R w (ρ:Operand→Value) (o:Oper),o.op = op→(∀ x∈op.operands,RepV φ R w (ev x) (ρ x))→
      (∀ x∈op.operands,ChOK φ R w lk (ev x))→∃ u,RepV φ R w v u∧(execOp ρ o).run P w = .ok (.value u) w:=by
  unfold pureV at h
  split at h
  · rename_i x
    exact ⟨_,h,fun id hid=>⟨x,by simp [Op.operands],.inl hid⟩,fun φ R w ρ o ho hr _=>⟨_,hr x (by simp [Op.operands]),by simp [execOp,ho]⟩⟩
  · rename_i x
    exact ⟨_,h,fun id hid=>⟨x,by simp [Op.operands],.inl hid⟩,fun φ R w ρ o ho hr _=>⟨_,hr x (by simp [Op.operands]),by simp [execOp,ho]⟩⟩
  · rename_i xt x f
    split at h
    · rename_i e cs he hx
      split at h
      · rename_i fs hk
        split at h
        · rename_i off ft hf
          obtain ⟨v,hv,hn,hs⟩:=field_sound hT he hk hf h
          refine ⟨v,hv,fun id hid=>⟨x,by simp [Op.operands],.inl (by rw [hx];simp [AV.has,hn id hid])⟩,fun φ R w ρ o ho hr _=>?_⟩
          have hr:=hr x (by simp [Op.operands])
          rw [hx] at hr
          simp only [RepV] at hr
          obtain ⟨vs,hvs,hr⟩:=hr
          obtain ⟨u,hu,hrun⟩:=hs φ R w vs hr
          exact ⟨u,hu,by simp [execOp,ho,hvs,hrun]⟩
        · exact h.elim
      · exact h.elim
    · exact h.elim
  · rename_i x i
    split at h
    · rename_i vs hx
      split at h
      · rename_i hi
        have hi:i + 1≤vs.length:=Nat.le_of_ble_eq_true hi
        refine ⟨_,h,fun id hid=>⟨x,by simp [Op.operands],.inl (by rw [hx];simp only [AV.has];exact hasAny_getD _ _ hid)⟩,fun φ R w ρ o ho hr _=>?_⟩
        have hr:=hr x (by simp [Op.operands])
        rw [hx] at hr
        simp only [RepV] at hr
        obtain ⟨us,hus,hr⟩:=hr
        have hl:=hr.length
        simp only [Array.length_toList] at hl
        have hlt:i < us.size:=by omega
        refine ⟨us[i],hr.get i _ (by simp [hlt]),?_⟩
        simp [execOp,ho,hus,Instr.extract,hlt]
      · exact h.elim
    · exact h.elim
  · rename_i bop t x y yt
    obtain ⟨v,hv,hn,hs⟩:=binV_sound hT h
    refine ⟨v,hv,fun id hid=>by rw [hn id] at hid;simp at hid,fun φ R w ρ o ho hr _=>?_⟩
    obtain ⟨u,hu,hrun⟩:=hs φ R w _ _ x y (hr x (by simp [Op.operands])) (hr y (by simp [Op.operands]))
    refine ⟨u,hu,?_⟩
    simp only [execOp,ho]
    rw [Sem.run_bind,hrun]
    rfl
  · rename_i t x
    split at h
    · rename_i b hx
      refine ⟨_,h,by simp [AV.has],fun φ R w ρ o ho hr _=>?_⟩
      have hr:=hr x (by simp [Op.operands])
      rw [hx] at hr
      simp only [RepV] at hr
      exact ⟨_,rfl,by simp [execOp,ho,hr,Op.unary]⟩
    · exact h.elim
  · rename_i t x
    split at h
    · rename_i k n hx
      refine ⟨_,h,by simp [AV.has],fun φ R w ρ o ho hr _=>?_⟩
      have hr:=hr x (by simp [Op.operands])
      rw [hx] at hr
      simp only [RepV] at hr
      exact ⟨_,rfl,by simp [execOp,ho,hr,Op.unary,Op.intArith]⟩
    · exact h.elim
  · rename_i s d x
    obtain ⟨v,hv,hn,hs⟩:=convV_sound hT h
    refine ⟨v,hv,fun id hid=>by rw [hn id] at hid;simp at hid,fun φ R w ρ o ho hr hc=>?_⟩
    obtain ⟨u,hu,hrun⟩:=hs φ R w _ (hr x (by simp [Op.operands])) (hc x (by simp [Op.operands]))
    exact ⟨u,hu,by simp [execOp,ho,hrun]⟩
  · rename_i x
    have key:∀ v,K v→(ev x = v)→(∀ φ R w u,RepV φ R w v u→(∃ a,u = .pointer (some a))∨∃ f vs,u = .func (.func f) #[] vs)→
        ∃ v,K v∧(∀ id,v.has id = true→∃ x'∈(Op.nilCheck x).operands,From lk (ev x') id)∧∀ φ R w (ρ:Operand→Value) (o:Oper),o.op = .nilCheck x→(∀ x'∈(Op.nilCheck x).operands,RepV φ R w (ev x') (ρ x'))→
      (∀ x'∈(Op.nilCheck x).operands,ChOK φ R w lk (ev x'))→∃ u,RepV φ R w v u∧(execOp ρ o).run P w = .ok (.value u) w:=by
      intro v hv hx hp
      refine ⟨v,hv,fun id hid=>⟨x,by simp [Op.operands],.inl (by rw [hx];exact hid)⟩,fun φ R w ρ o ho hr _=>?_⟩
      have hr:=hr x (by simp [Op.operands])
      rw [hx] at hr
      refine ⟨_,hr,?_⟩
      rcases hp φ R w _ hr with ⟨a,ha⟩|⟨f,vs,ha⟩ <;> simp [execOp,ho,ha]
    split at h
    · rename_i hx
      exact key _ h hx (fun φ R w u hu=>by simp only [RepV] at hu;obtain ⟨b,cap,_,rfl⟩:=hu;exact .inl ⟨_,rfl⟩)
    · rename_i hx
      exact key _ h hx (fun φ R w u hu=>by simp only [RepV] at hu;obtain ⟨b,base,us,rfl,_⟩:=hu;exact .inl ⟨_,rfl⟩)
    · rename_i hx
      exact key _ h hx (fun φ R w u hu=>by simp only [RepV] at hu;obtain ⟨b,cap,_,rfl⟩:=hu;exact .inl ⟨_,rfl⟩)
    · rename_i hx
      exact key _ h hx (fun φ R w u hu=>by simp only [RepV] at hu;obtain ⟨vs,rfl,_⟩:=hu;exact .inr ⟨_,_,rfl⟩)
    · exact h.elim
  · rename_i t x f
    split at h
    · rename_i e he
      split at h
      · rename_i fs hk
        split at h
        · rename_i off ft hf
          split at h
          · rename_i fe hfe
            split at h
            · exact h.elim
            · rename_i h0
              have h0:fe.size≠0:=fun h=>by rw [h] at h0;simp at h0
              split at h
              · rename_i id o hx
                refine ⟨_,h,fun id hid=>⟨x,by simp [Op.operands],.inl (by rw [hx];simpa [AV.has] using hid)⟩,fun φ R w ρ oo ho hr _=>?_⟩
                have hr:=hr x (by simp [Op.operands])
                rw [hx] at hr
                simp only [RepV] at hr
                obtain ⟨b,cap,hφ,hu⟩:=hr
                exact ⟨_,⟨b,cap,hφ,rfl⟩,by simp [execOp,ho,hu,run_fieldAt hT he hk hf hfe h0]⟩
              · rename_i cs o hx
                refine ⟨_,h,fun id hid=>⟨x,by simp [Op.operands],.inl (by rw [hx];simpa [AV.has] using hid)⟩,fun φ R w ρ oo ho hr _=>?_⟩
                have hr:=hr x (by simp [Op.operands])
                rw [hx] at hr
                simp only [RepV] at hr
                obtain ⟨b,base,us,hu,hr⟩:=hr
                exact ⟨.pointer (some ⟨b,base + (o + off),none⟩),by simp only [RepV];exact ⟨b,base,us,rfl,hr⟩,by simp [execOp,ho,hu,run_fieldAt hT he hk hf hfe h0,Nat.add_assoc]⟩
              · rename_i id sz i o hx
                refine ⟨_,h,fun id hid=>⟨x,by simp [Op.operands],.inl (by rw [hx];simpa [AV.has] using hid)⟩,fun φ R w ρ oo ho hr _=>?_⟩
                have hr:=hr x (by simp [Op.operands])
                rw [hx] at hr
                simp only [RepV] at hr
                obtain ⟨b,cap,hφ,hu⟩:=hr
                exact ⟨.pointer (some ⟨b,i * sz + (o + off),none⟩),by simp only [RepV];exact ⟨b,cap,hφ,rfl⟩,by simp [execOp,ho,hu,run_fieldAt hT he hk hf hfe h0,Nat.add_assoc]⟩
              · exact h.elim
          · exact h.elim
        · exact h.elim
      · exact h.elim
    · exact h.elim
  · rename_i t x i
    obtain ⟨v,hv,hn,hs⟩:=indexAddrV_sound hT h
    refine ⟨v,hv,fun id hid=>⟨x,by simp [Op.operands],.inl (hn id hid)⟩,fun φ R w ρ o ho hr hc=>?_⟩
    obtain ⟨u,hu,hrun⟩:=hs φ R w _ _ (hr x (by simp [Op.operands])) (hr i (by simp [Op.operands]))
    exact ⟨u,hu,by simp [execOp,ho,hrun]⟩
  · rename_i t x i
    obtain ⟨v,hv,hn,hs⟩:=indexV_sound hT h
    refine ⟨v,hv,fun id hid=>⟨x,by simp [Op.operands],.inl (hn id hid)⟩,fun φ R w ρ o ho hr hc=>?_⟩
    obtain ⟨u,hu,hrun⟩:=hs φ R w _ _ (hr x (by simp [Op.operands])) (hr i (by simp [Op.operands]))
    exact ⟨u,hu,by simp [execOp,ho,hrun]⟩
  · rename_i t a
    obtain ⟨v,hv,hn,hs⟩:=loadV_sound hT h
    refine ⟨v,hv,fun id hid=>⟨a,by simp [Op.operands],hn id hid⟩,fun φ R w ρ o ho hr hc=>?_⟩
    obtain ⟨u,hu,hrun⟩:=hs φ R w _ (hr a (by simp [Op.operands])) (hc a (by simp [Op.operands]))
    exact ⟨u,hu,by simp [execOp,ho,hrun]⟩
  · rename_i t x lo hi
    obtain ⟨v,hv,hn,hs⟩:=sliceV_sound hT h
    refine ⟨v,hv,fun id hid=>⟨x,by simp [Op.operands],.inl (hn id hid)⟩,fun φ R w ρ o ho hr hc=>?_⟩
    obtain ⟨u,hu,hrun⟩:=hs φ R w _ (lo.map ρ) (hi.map ρ) (hr x (by simp [Op.operands])) (by cases lo with|none=>rfl|some y=>exact ⟨_,rfl,hr y (by simp [Op.operands])⟩)
      (by cases hi with|none=>rfl|some y=>exact ⟨_,rfl,hr y (by simp [Op.operands])⟩)
    exact ⟨u,hu,by simp [execOp,ho,hrun]⟩
  · rename_i t x lo hi m
    obtain ⟨v,hv,hn,hs⟩:=slice3V_sound hT h
    refine ⟨v,hv,fun id hid=>⟨x,by simp [Op.operands],.inl (hn id hid)⟩,fun φ R w ρ o ho hr hc=>?_⟩
    obtain ⟨u,hu,hrun⟩:=hs φ R w _ (lo.map ρ) _ _ (hr x (by simp [Op.operands])) (by cases lo with|none=>rfl|some y=>exact ⟨_,rfl,hr y (by simp [Op.operands])⟩)
      (hr hi (by simp [Op.operands])) (hr m (by simp [Op.operands]))
    exact ⟨u,hu,by simp [execOp,ho,hrun]⟩
  · rename_i t parts
    split at h
    · rename_i e he
      obtain ⟨z,hz,hzc,hza⟩:=run_zeroValue_tab hT he
      have hin:∀ p∈parts.toList,p.2∈(Op.build t parts).operands:=fun p hp=>by simp only [Op.operands];simp;exact ⟨p.1,by simpa using hp⟩
      split at h
      · rename_i fs hk
        split at h
        · rename_i cs hall hcs
          refine ⟨_,h,fun id hid=>?_,fun φ R w ρ o ho hr hc=>?_⟩
          · simp only [AV.has] at hid
            rcases fillCells_has _ _ _ hcs hid with h1|⟨x,hx,h1⟩
            · rw [zeroChk_has hzc] at h1;simp at h1
            · simp only [List.mem_map] at hx
              obtain ⟨p,hp,rfl⟩:=hx
              exact ⟨p.2,hin p hp,.inl h1⟩
          · obtain ⟨us',hf,hu⟩:=fill_sound (φ:=φ) (R:=R) (w:=w) (ρ:=ρ) parts.toList _ cs z.cells hcs (zeroChk_rep hzc) (fun p hp=>hr p.2 (hin p hp))
            refine ⟨.agg us',by simp only [RepV];exact ⟨us',rfl,hu⟩,?_⟩
            obtain ⟨fields,hd,hfs,_⟩:=tk_struct hT he hk
            subst hfs
            have hm:=run_mapM_ok (P:=P) (w:=w) (fun f:Field=>do pure (f.offset,← sizeOf f.type)) (fun f=>(f.offset,P.cellsOf f.type)) fields (fun f hf=>by
              rw [List.all_eq_true] at hall
              have:=hall (f.offset,f.type) (by simp;exact ⟨f,by simpa using hf,rfl,rfl⟩)
              obtain ⟨fe,hfe⟩:=Option.isSome_iff_exists.1 this
              obtain ⟨i,d,hi,_,hsz,_⟩:=(tab_ok hT hfe).ex
              simp [run_sizeOf_tab hT hfe,Program.cellsOf,hi,hsz])
            have hpl:(fun i=>(fields.map fun f=>(f.offset,P.cellsOf f.type))[i]?) = sizesOf T (fields.toList.map fun f=>(f.offset,f.type)):=by
              funext i
              simp only [sizesOf,Array.getElem?_map,List.getElem?_map,Array.getElem?_toList]
              cases hfi:fields[i]? with
              | none=>simp
              | some f=>
                rw [List.all_eq_true] at hall
                have:=hall (f.offset,f.type) (by simp;exact ⟨f,by obtain ⟨hi,rfl⟩:=Array.getElem?_eq_some_iff.1 hfi;exact Array.getElem_mem hi,rfl,rfl⟩)
                obtain ⟨fe,hfe⟩:=Option.isSome_iff_exists.1 this
                obtain ⟨i,d,hi,_,hsz,_⟩:=(tab_ok hT hfe).ex
                simp [hfe,Program.cellsOf,hi,hsz]
            simp only [execOp,ho,Instr.build,Sem.run_bind,hz,Result.andThen_ok,run_underlying hd,hm]
            rw [hpl,Array.toList_map,hf]
            rfl
        · exact h.elim
      · rename_i n et hk
        split at h
        · rename_i ee hee
          split at h
          · rename_i cs hcs
            refine ⟨_,h,fun id hid=>?_,fun φ R w ρ o ho hr hc=>?_⟩
            · simp only [AV.has] at hid
              rcases fillCells_has _ _ _ hcs hid with h1|⟨x,hx,h1⟩
              · rw [zeroChk_has hzc] at h1;simp at h1
              · simp only [List.mem_map] at hx
                obtain ⟨p,hp,rfl⟩:=hx
                exact ⟨p.2,hin p hp,.inl h1⟩
            · obtain ⟨us',hf,hu⟩:=fill_sound (φ:=φ) (R:=R) (w:=w) (ρ:=ρ) parts.toList _ cs z.cells hcs (zeroChk_rep hzc) (fun p hp=>hr p.2 (hin p hp))
              refine ⟨.agg us',by simp only [RepV];exact ⟨us',rfl,hu⟩,?_⟩
              simp only [execOp,ho,Instr.build,Sem.run_bind,hz,Result.andThen_ok,run_underlying (tk_arr hT he hk),run_sizeOf_tab hT hee]
              rw [Array.toList_map,hf]
              rfl
          · exact h.elim
        · exact h.elim
      · exact h.elim
    · exact h.elim
  · rename_i f captured
    refine ⟨_,h,fun id hid=>?_,fun φ R w ρ o ho hr _=>?_⟩
    · simp only [AV.has] at hid
      obtain ⟨x,hx,h1⟩:=hasAny_map _ _ _ hid
      exact ⟨x,by simp [Op.operands];simpa using hx,.inl h1⟩
    · refine ⟨.func (.func f) #[] (captured.map ρ),?_,by simp [execOp,ho,Instr.makeFunc]⟩
      simp only [RepV]
      refine ⟨_,rfl,?_⟩
      rw [Array.toList_map]
      exact repVs_map _ _ _ (fun x hx=>hr x (by simp [Op.operands];simpa using hx))
  · rename_i x t
    obtain ⟨v,hv,hn,hs⟩:=lenV_sound hT h
    refine ⟨v,hv,fun id hid=>by rw [hn id] at hid;simp at hid,fun φ R w ρ o ho hr hc=>?_⟩
    obtain ⟨u,hu,hrun⟩:=hs φ R w _ o.type (hr x (by simp [Op.operands,Call.operands]))
    exact ⟨u,hu,by simp [execOp,ho,resolve,invoke,builtin,hrun]⟩
  · rename_i x xs ats
    split at h
    · rename_i k n hx
      split at h
      · rename_i r hfo
        refine ⟨_,h,by simp [AV.has],fun φ R w ρ o ho hr hc=>⟨_,rfl,?_⟩⟩
        have hx':=hr x (by simp [Op.operands,Call.operands])
        rw [hx] at hx'
        simp only [RepV] at hx'
        have:=foldInts_sound (P:=P) (w:=w) (φ:=φ) (R:=R) (g:=Builtin.min2) (f:=min) (k:=k) (fun x y=>by
          simp only [Builtin.min2,Sem.run_pure]
          congr 2
          omega) _ n r (xs.map ρ) hfo (repVs_map _ _ _ (fun y hy=>hr y (by simp [Op.operands,Call.operands,hy])))
        simp [execOp,ho,resolve,invoke,builtin,Builtin.min_,hx',this]
      · exact h.elim
    · exact h.elim
  · rename_i x xs ats
    split at h
    · rename_i k n hx
      split at h
      · rename_i r hfo
        refine ⟨_,h,by simp [AV.has],fun φ R w ρ o ho hr hc=>⟨_,rfl,?_⟩⟩
        have hx':=hr x (by simp [Op.operands,Call.operands])
        rw [hx] at hx'
        simp only [RepV] at hx'
        have:=foldInts_sound (P:=P) (w:=w) (φ:=φ) (R:=R) (g:=Builtin.max2) (f:=max) (k:=k) (fun x y=>by
          simp only [Builtin.max2,Sem.run_pure]
          congr 2
          omega) _ n r (xs.map ρ) hfo (repVs_map _ _ _ (fun y hy=>hr y (by simp [Op.operands,Call.operands,hy])))
        simp [execOp,ho,resolve,invoke,builtin,Builtin.max_,hx',this]
      · exact h.elim
    · exact h.elim
  · exact h.elim
end
end Go.Fw
namespace Go.Fw
def RB (R:Prot) (w:World):Prop:=∀ b o,R b o→b < w.heap.size
def Entered (P : Program) (f : FuncId) : Prop := ∃ fn, P.funcs[f]? = some fn ∧ (fn.name == "runtime.NumGoroutine") = false ∧ fn.body.isNone = false
def noHeap:Heap:=fun _=>none
def FSpec (P:Program) (gl:Gl) (f:FuncId) (args:List AV) (h:Heap) (ret:AV) (h':Heap):Prop:=
  Entered P f∧∀ φ R w (vs:List Value),HRel φ R w h→RB R w→GlOK gl φ R w→RepVs φ R w args vs→Calls P f vs.toArray w fun e w'=>
    ∃ v φ' R',e = .returned v∧RepV φ' R' w' ret v∧HRel φ' R' w' h'∧RB R' w'∧Evo R (Owns φ h) w R' (Owns φ' h') w'∧
      ∀ id c,h id = some c→c.fixed = true→φ' id = φ id∧∃ c',h' id = some c'∧c'.fixed = true
def PSpec (P:Program) (gl:Gl) (f:FuncId) (args:List AV) (ret:AV):Prop:=FSpec P gl f args noHeap ret noHeap
structure StepTo (φ:Place) (R:Prot) (w:World) (id:Nat) (c:Option Chunk) (φ':Place) (R':Prot) (w':World):Prop where
  evo:Evo R (fun _=>False) w R' (fun b=>c.isSome = true∧∃ cap,φ' id = some (b,cap)) w'
  rb:RB R' w'
  place:∀ j,j≠id→φ' j = φ j
  chunk:∀ ch,c = some ch→ChunkRel φ' R' w' id ch∧∀ b cap,φ' id = some (b,cap)→w.heap.size≤b
  single:∀ ch,c = some ch→ch.single
theorem StepTo.refl {φ:Place} {R:Prot} {w:World} {id:Nat} (h:RB R w):StepTo φ R w id none φ R w:=
  ⟨⟨rfl,rfl,rfl,Nat.le_refl _,fun _ _ _=>rfl,fun _ _ h=>h,fun _ _ _=>rfl,fun _ _ h=>.inl h,fun _ h=>by simp at h⟩,h,fun _ _=>rfl,fun _ h=>by simp at h,fun _ h=>by simp at h⟩
structure Flo (P:Program) (gl:Gl) (o:Oper) (ev:Operand→AV) (lk:Heap) (id:Nat) (v:AV) (c:Option Chunk):Prop where
  run:∀ φ R (a:Act) w,(∀ x∈o.op.operands,RepV φ R w (ev x) (a.eval x))→(∀ x∈o.op.operands,ChOK φ R w lk (ev x))→RB R w→GlOK gl φ R w→∀ (next:Act→World→Prop) (Q:Exit→Act→World→Prop),
    (∀ φ' R' w' u,StepTo φ R w id c φ' R' w'→RepV φ' R' w' v u→next (a.put o.dst u) w')→o.wp P a w next Q
  names:∀ j,v.has j = true→(∃ x∈o.op.operands,From lk (ev x) j)∨(j = id∧c.isSome = true)
  cnames:∀ ch j,c = some ch→ch.has j = true→∃ x∈o.op.operands,From lk (ev x) j
def pushed (w:World) (o:Obj) (d:Nat):World:={ heap:=w.heap.push o,tape:=w.tape,drawn:=d,os:=w.os,output:=w.output }
theorem pushed_cell {w:World} {o:Obj} {d b k:Nat} (h:b < w.heap.size):(pushed w o d).cell? ⟨b,k,none⟩ = w.cell? ⟨b,k,none⟩:=by
  have hb:(w.heap.push o)[b]? = w.heap[b]?:=by rw [Array.getElem?_push,if_neg (by omega)]
  simp only [World.cell?,pushed,hb]
theorem pushed_get (w:World) (o:Obj) (d:Nat):(pushed w o d).heap[w.heap.size]? = some o:=by
  show (w.heap.push o)[w.heap.size]? = some o
  rw [Array.getElem?_push,if_pos rfl]
def setPlace (φ:Place) (id:Nat) (p:Option (Nat × Nat)):Place:=fun j=>if j = id then p else φ j
theorem stepTo_push {φ:Place} {R:Prot} {w:World} {id:Nat} (hR:RB R w) (vs:Array Value) (e:TypeId) (fr:Nat × Nat) (cap:Nat) (ch:Chunk) (d:Nat)
    (hc:ChunkRel (setPlace φ id (some (w.heap.size,cap))) R (pushed w (.cells vs e fr) d) id ch) (hsg:ch.single:=by intro _ _ _ h;exact h) :
    StepTo φ R w id (some ch) (setPlace φ id (some (w.heap.size,cap))) R (pushed w (.cells vs e fr) d) where
  evo:=⟨rfl,rfl,rfl,by simp [pushed],fun b hb _=>by show (w.heap.push _)[b]? = _;rw [Array.getElem?_push,if_neg (by omega)],fun _ _ h=>h,fun b o h=>pushed_cell (hR b o h),fun _ _ h=>.inl h,
    fun b hb=>by
      obtain ⟨_,cap',h⟩:=hb
      simp only [setPlace,if_true,Option.some.injEq,Prod.mk.injEq] at h
      exact .inl (by omega)⟩
  rb b o h:=by have:=hR b o h;show b < (w.heap.push _).size;rw [Array.size_push];omega
  place j hj:=by simp [setPlace,hj]
  chunk c h:=by
    simp only [Option.some.injEq] at h
    subst h
    refine ⟨hc,fun b cap' hb=>?_⟩
    simp only [setPlace,if_true,Option.some.injEq,Prod.mk.injEq] at hb
    omega
  single c h:=by
    simp only [Option.some.injEq] at h
    subst h
    exact hsg
theorem not_prot_new {R:Prot} {w:World} (hR:RB R w) (o:Nat):¬ R w.heap.size o:=fun h=>by have:=hR _ _ h;omega
theorem noFr_zero (n:Nat):NoFr (0,0) n:=fun o _ h=>by simp at h
def assembleN (t:Ty):Nat→List AV→Option (List t.D)
  | 0,_=>some []
  | n + 1,cs=>match assemble t cs with
    | some (x,r)=>match assembleN t n r with
      | some xs=>some (x :: xs)
      | none=>none
    | none=>none
theorem assembleN_rep {φ:Place} {R:Prot} {w:World} {t:Ty}:∀ (n:Nat) (cs:List AV) (xs:List t.D) (vs:List Value),assembleN t n cs = some xs→RepVs φ R w cs vs→
    xs.length = n∧∀ (i:Nat) (h:i < xs.length),Rep w R t xs[i] ((vs.drop (i * t.size)).take t.size)
  | 0,cs,xs,vs,h,_=>by simp only [assembleN,Option.some.injEq] at h;subst h;exact ⟨rfl,fun i h=>by simp at h⟩
  | n + 1,cs,xs,vs,h,hr=>by
    simp only [assembleN] at h
    split at h
    · rename_i x r hx
      split at h
      · rename_i ys hys
        simp only [Option.some.injEq] at h
        subst h
        obtain ⟨us,ws,rfl,h1,h2⟩:=assemble_rep hx hr
        obtain ⟨hl,hi⟩:=assembleN_rep n r ys ws hys h2
        have hul:=h1.length
        refine ⟨by simp [hl],fun i h=>?_⟩
        cases i with
        | zero=>simpa [← hul] using h1
        | succ i=>
          have:=hi i (by simpa using h)
          have e:(us ++ ws).drop ((i + 1) * t.size) = ws.drop (i * t.size):=by
            rw [List.drop_append,hul,Nat.add_mul,Nat.one_mul,Nat.add_sub_cancel]
            rw [List.drop_of_length_le (by rw [hul];omega)]
            rfl
          rw [e]
          simpa using this
      · simp at h
    · simp at h
def zerosOf (z:List AV):Nat→List AV
  | 0=>[]
  | n + 1=>z ++ zerosOf z n
theorem zerosOf_length (z:List AV):∀ n,(zerosOf z n).length = n * z.length
  | 0=>by simp [zerosOf]
  | n + 1=>by simp [zerosOf,zerosOf_length z n,Nat.add_mul,Nat.add_comm]
def strsOf:List (Nat × AV)→Nat→Option (List (List UInt8))
  | [],_=>some []
  | (i,.str s) :: r,k=>match Nat.beq i k with
    | true=>match strsOf r (k + 1) with
      | some xs=>some (s :: xs)
      | none=>none
    | false=>none
  | _ :: _,_=>none
theorem zeros_one (z:AV):∀ n,zerosOf [z] n = List.replicate n z
  | 0=>rfl
  | n + 1=>by simp [zerosOf,zeros_one z n,List.replicate_succ]
theorem fill_strs (z:AV):∀ (l:List (Nat × AV)) (k:Nat) (xs:List (List UInt8)) (done:List AV),strsOf l k = some xs→done.length = k→
    fillCells (fun i=>some (i * 1,1)) l (done ++ List.replicate xs.length z) = some (done ++ xs.map AV.str)
  | [],k,xs,done,h,hd=>by
    simp only [strsOf,Option.some.injEq] at h
    subst h
    simp [fillCells]
  | (i,v) :: r,k,xs,done,h,hd=>by
    cases v with
    | str s=>
      simp only [strsOf] at h
      split at h
      · rename_i hb
        have hik:=Nat.eq_of_beq_eq_true hb
        split at h
        · rename_i ys hy
          simp only [Option.some.injEq] at h
          subst h
          subst hik
          have ih:=fill_strs z r (i + 1) ys (done ++ [.str s]) hy (by simp [hd])
          simp only [fillCells,AV.cells]
          have e1:Nat.beq [AV.str s].length 1 = true:=rfl
          have e2:Nat.ble (i * 1 + 1) (done ++ List.replicate (s :: ys).length z).length = true:=by
            apply Nat.ble_eq_true_of_le
            simp [hd]
          rw [e1,e2]
          simp only
          have e3:List.take (i * 1) (done ++ List.replicate (s :: ys).length z) = done:=by
            rw [Nat.mul_one,← hd,List.take_left']
            rfl
          have e4:List.drop (i * 1 + 1) (done ++ List.replicate (s :: ys).length z) = List.replicate ys.length z:=by
            rw [Nat.mul_one,← hd,List.drop_append]
            simp [List.replicate_succ]
          rw [e3,e4,ih]
          simp
        · cases h
      · cases h
    | _=>simp [strsOf] at h
theorem assemble_strs:∀ (xs:List (List UInt8)),assembleN .str xs.length (xs.map AV.str) = some xs
  | []=>rfl
  | s :: xs=>by
    simp only [List.length_cons,List.map_cons,assembleN,assemble,takeStr,assemble_strs xs]
def genSlice (ty:Ty) (size:Nat) (zero:List AV) (len:Nat) (l:List (Nat × AV)):Option (List ty.D):=
  match fillCells (fun i=>some (i * size,size)) l (zerosOf zero len) with
  | some cs=>assembleN ty len cs
  | none=>none
def litSlice:(ty:Ty)→Nat→List AV→Nat→List (Nat × AV)→Option (List ty.D)
  | .str,1,[z],len,l=>match strsOf l 0 with
    | some xs=>match Nat.beq xs.length len with
      | true=>some xs
      | false=>genSlice .str 1 [z] len l
    | none=>genSlice .str 1 [z] len l
  | ty,size,zero,len,l=>genSlice ty size zero len l
theorem genSlice_sound {ty:Ty} {size:Nat} {zero:List AV} {len:Nat} {l:List (Nat × AV)} {xs:List ty.D} (h:genSlice ty size zero len l = some xs) :
    ∃ cs,fillCells (fun i=>some (i * size,size)) l (zerosOf zero len) = some cs∧assembleN ty len cs = some xs:=by
  unfold genSlice at h
  split at h
  · rename_i cs hcs;exact ⟨cs,hcs,h⟩
  · cases h
theorem litSlice_sound {ty:Ty} {size:Nat} {zero:List AV} {len:Nat} {l:List (Nat × AV)} {xs:List ty.D} (h:litSlice ty size zero len l = some xs) :
    ∃ cs,fillCells (fun i=>some (i * size,size)) l (zerosOf zero len) = some cs∧assembleN ty len cs = some xs:=by
  unfold litSlice at h
  split at h
  · split at h
    · rename_i ys hy
      split at h
      · rename_i hb
        have hl:=Nat.eq_of_beq_eq_true hb
        simp only [Option.some.injEq] at h
        subst h
        subst hl
        refine ⟨ys.map AV.str,?_,assemble_strs ys⟩
        rw [zeros_one]
        have h9:=fun z:AV=>fill_strs z l 0 ys [] hy rfl
        simp only [List.nil_append] at h9
        exact h9 _
      · exact genSlice_sound h
    · exact genSlice_sound h
  · exact genSlice_sound h
theorem zerosOf_getD (z:List AV) (d:AV):∀ n i,i < n * z.length→(zerosOf z n).getD i d = z.getD (i % z.length) d
  | 0,i,h=>by simp at h
  | n + 1,i,h=>by
    have hz:0 < z.length:=by
      rcases Nat.eq_zero_or_pos z.length with h0|h0
      · rw [h0] at h;simp at h
      · exact h0
    simp only [zerosOf]
    by_cases hi:i < z.length
    · rw [Nat.mod_eq_of_lt hi]
      simp [List.getD,List.getElem?_append_left hi]
    · have:=zerosOf_getD z d n (i - z.length) (by rw [Nat.add_mul] at h;omega)
      rw [← Nat.mod_eq_sub_mod (by omega)] at this
      rw [← this]
      simp [List.getD,List.getElem?_append_right (Nat.le_of_not_lt hi)]
theorem zeros_rep {φ:Place} {R:Prot} {w:World} {z:List AV} {zs:Array Value} (h:RepVs φ R w z zs.toList) (n:Nat) :
    RepVs φ R w (zerosOf z n) ((Array.range (n * zs.size)).map (zs[· % zs.size]!)).toList:=by
  have hl:=h.length
  simp only [Array.length_toList] at hl
  apply RepVs.of_get
  · simp [zerosOf_length,hl]
  · intro i v hv
    simp only [Array.toList_map,Array.toList_range,List.getElem?_map,Option.map_eq_some_iff] at hv
    obtain ⟨j,hj,rfl⟩:=hv
    obtain ⟨hj1,rfl⟩:=List.getElem?_eq_some_iff.1 hj
    simp only [List.length_range,List.getElem_range] at hj1 ⊢
    have hz:0 < zs.size:=by
      rcases Nat.eq_zero_or_pos zs.size with h0|h0
      · rw [h0] at hj1;simp at hj1
      · exact h0
    have hm:i % zs.size < zs.size:=Nat.mod_lt _ hz
    rw [zerosOf_getD z .any n i (by rw [← hl];exact hj1),← hl]
    exact h.get _ _ (by simp [hm,getElem!_pos])
def intsOf (s:List UInt8):List Int:=s.map fun b=>(b.toNat:Int)
def ReadFact (P:Program) (op:Op) (lk:Heap) (ev:Operand→AV) (v:AV):Prop:=
  (∀ id,v.has id = true→∃ x∈op.operands,From lk (ev x) id)∧∀ φ R w (ρ:Operand→Value) (o:Oper),o.op = op→(∀ x∈op.operands,RepV φ R w (ev x) (ρ x))→
    (∀ x∈op.operands,ChOK φ R w lk (ev x))→∃ u,RepV φ R w v u∧(execOp ρ o).run P w = .ok (.value u) w
def floV (P:Program) (T:Tab) (gl:Gl) (lk:Heap) (ev:Operand→AV) (id:Nat) (op:Op) (K:AV→Option Chunk→Prop):Prop:=
  match op with
  | .box _ x=>match (ev x).cells with
    | some cs=>K (.loc id 0) (some (.box cs))
    | none=>False
  | .alloc t=>match tget T t with
    | some e=>K (.loc id 0) (some (.box e.zero))
    | none=>False
  | .buildSlice t len parts=>match tget T t with
    | some e=>match e.k with
      | .slice et=>match tget T et,tyOf T 20 et with
        | some ee,some ty=>match Nat.beq ee.size ty.size,Nat.ble (len * ee.size) 1000 with
          | true,true=>match litSlice ty ee.size ee.zero len (parts.toList.map fun p=>(p.1,ev p.2)) with
            | some xs=>K (.own id len) (some (.arr ty xs))
            | none=>False
          | _,_=>False
        | _,_=>False
      | _=>False
    | none=>False
  | .makeSlice t l c=>match tget T t,ev l,ev c with
    | some e,.int .i64 l,.int .i64 c=>match e.k with
      | .slice et=>match tget T et,tyOf T 20 et with
        | some ee,some ty=>match Nat.beq ee.size ty.size,assemble ty ee.zero with
          | true,some (z,_)=>(0≤l∧l≤c∧c * ee.bytes≤140737488355328∧c≤140737488355328)∧K (.own id l.toNat) (some (.arr ty (List.replicate l.toNat z)))
          | _,_=>False
        | _,_=>False
      | _=>False
    | _,_,_=>False
  | .convert s d x=>match ev x,tget T d with
    | .str str,some e=>match e.k with
      | .slice et=>match tget T et with
        | some ee=>match ee.k with
          | .int .u8=>(∃ ds,tget T s = some ds)∧str.length≤140737488355328∧K (.own id str.length) (some (.arr (.int .u8) (intsOf str)))
          | _=>False
        | none=>False
      | _=>pureV T lk ev (.convert s d x) (fun v=>K v none)
    | _,_=>pureV T lk ev (.convert s d x) (fun v=>K v none)
  | .call ⟨.value f,args,_⟩=>match ev f with
    | .fn g caps=>∃ ret,(∀ j,ret.has j = false)∧PSpec P gl g (args.toList.map ev ++ caps) ret∧K ret none
    | _=>False
  | .lookup t m k c=>∃ v,ReadFact P (.lookup t m k c) lk ev v∧K v none
  | op=>pureV T lk ev op (fun v=>K v none)
section
variable {P:Program} {T:Tab} (hT:tabOK P T = true)
include hT
theorem flo_pure {gl:Gl} {lk:Heap} {ev:Operand→AV} {id:Nat} {op:Op} {K:AV→Option Chunk→Prop} (h:pureV T lk ev op (fun v=>K v none)) (o:Oper) (ho:o.op = op) :
    ∃ v c,K v c∧Flo P gl o ev lk id v c:=by
  obtain ⟨v,hk,hn,hs⟩:=pureV_sound hT h
  subst ho
  refine ⟨v,none,hk,⟨fun φ R a w hr hc hR _ next Q hnext=>?_,fun j hj=>.inl (hn j hj),fun cs j h=>by simp at h⟩⟩
  obtain ⟨u,hu,hrun⟩:=hs φ R w a.eval o rfl hr hc
  unfold Oper.wp
  rw [hrun]
  exact hnext φ R w u (StepTo.refl hR) hu
theorem flo_read {gl:Gl} {lk:Heap} {ev:Operand→AV} {id:Nat} {op:Op} {v:AV} (h:ReadFact P op lk ev v) (o:Oper) (ho:o.op = op):Flo P gl o ev lk id v none:=by
  obtain ⟨hn,hs⟩:=h
  subst ho
  refine ⟨fun φ R a w hr hc hR _ next Q hnext=>?_,fun j hj=>.inl (hn j hj),fun cs j h=>by simp at h⟩
  obtain ⟨u,hu,hrun⟩:=hs φ R w a.eval o rfl hr hc
  unfold Oper.wp
  rw [hrun]
  exact hnext φ R w u (StepTo.refl hR) hu
theorem flo_new {gl:Gl} {lk:Heap} {ev:Operand→AV} {id:Nat} {o:Oper} {v:AV} {ch:Chunk}
    (hrun:∀ φ R (a:Act) w,(∀ x∈o.op.operands,RepV φ R w (ev x) (a.eval x))→(∀ x∈o.op.operands,ChOK φ R w lk (ev x))→RB R w→∃ vs e fr cap d u,
      (execOp a.eval o).run P w = .ok (.value u) (pushed w (.cells vs e fr) d)∧
      ChunkRel (setPlace φ id (some (w.heap.size,cap))) R (pushed w (.cells vs e fr) d) id ch∧
      RepV (setPlace φ id (some (w.heap.size,cap))) R (pushed w (.cells vs e fr) d) v u)
    (hn:∀ j,v.has j = true→j = id) (hcn:∀ j,ch.has j = true→∃ x∈o.op.operands,From lk (ev x) j) (hsg:ch.single:=by intro _ _ _ h;exact h):Flo P gl o ev lk id v (some ch) where
  run φ R a w hr hc hR _ next Q hnext:=by
    obtain ⟨vs,e,fr,cap,d,u,h1,h2,h3⟩:=hrun φ R a w hr hc hR
    unfold Oper.wp
    rw [h1]
    exact hnext _ R _ u (stepTo_push hR vs e fr cap ch d h2 hsg) h3
  names j hj:=.inr ⟨hn j hj,rfl⟩
  cnames ch' j h hj:=by obtain rfl:=Option.some.inj h;exact hcn j hj
omit hT in
theorem RepVs.push {φ:Place} {R:Prot} {w:World} {id:Nat} {p:Option (Nat × Nat)} {o:Obj} {d:Nat} (hR:RB R w) {as:List AV} {vs:List Value} (h:RepVs φ R w as vs) (hid:AV.hasAny id as = false) :
    RepVs (setPlace φ id p) R (pushed w o d) as vs:=
  RepVs.mono (fun _ _ h=>h) (fun b o' hb=>pushed_cell (hR b o' hb)) (fun j hj=>by
    unfold setPlace
    rw [if_neg]
    intro e
    subst e
    rw [hid] at hj
    exact absurd hj (by simp)) h
omit hT in
theorem Rep.push {R:Prot} {w:World} {o:Obj} {d:Nat} (hR:RB R w) {t:Ty} {x:t.D} {vs:List Value} (h:Rep w R t x vs) :
    Rep (pushed w o d) R t x vs:=
  Rep.mono (fun _ _ h=>h) (fun b o' hb=>pushed_cell (hR b o' hb)) h
theorem flo_box {gl:Gl} {lk:Heap} {ev:Operand→AV} {id:Nat} {t:TypeId} {x:Operand} {cs:List AV} (hx:(ev x).cells = some cs) (hid:(ev x).has id = false) (o:Oper) (ho:o.op = .box t x) :
    Flo P gl o ev lk id (.loc id 0) (some (.box cs)):=by
  refine flo_new hT (fun φ R a w hr hc hR=>?_) (fun j hj=>by simp [AV.has] at hj;exact hj.symm) (fun j hj=>?_)
  · have hrx:=AV.cells_rep hx (hr x (by simp [ho,Op.operands]))
    refine ⟨(a.eval x).cells,t,(0,0),0,w.drawn,.pointer (some ⟨w.heap.size,0,none⟩),?_,?_,?_⟩
    · simp [execOp,ho,Instr.box,newVar,newRow];rfl
    · exact ⟨w.heap.size,0,_,t,(0,0),by simp [setPlace],pushed_get _ _ _,RepVs.push hR hrx (by rw [AV.cells_has hx];exact hid),not_prot_new hR,noFr_zero _⟩
    · simp only [RepV]
      exact ⟨w.heap.size,0,by simp [setPlace],rfl⟩
  · simp only [Chunk.has] at hj
    rw [AV.cells_has hx] at hj
    exact ⟨x,by simp [ho,Op.operands],.inl hj⟩
theorem flo_alloc {gl:Gl} {lk:Heap} {ev:Operand→AV} {id:Nat} {t:TypeId} {e:TE} (he:tget T t = some e) (o:Oper) (ho:o.op = .alloc t) :
    Flo P gl o ev lk id (.loc id 0) (some (.box e.zero)):=by
  obtain ⟨z,hz,hzc,_⟩:=run_zeroValue_tab hT he
  refine flo_new hT (fun φ R a w hr hc hR=>?_) (fun j hj=>by simp [AV.has] at hj;exact hj.symm) (fun j hj=>?_)
  · refine ⟨z.cells,t,(0,0),0,w.drawn,.pointer (some ⟨w.heap.size,0,none⟩),?_,?_,?_⟩
    · simp [execOp,ho,Instr.alloc,newVar,newRow,hz];rfl
    · exact ⟨w.heap.size,0,_,t,(0,0),by simp [setPlace],pushed_get _ _ _,zeroChk_rep hzc,not_prot_new hR,noFr_zero _⟩
    · simp only [RepV]
      exact ⟨w.heap.size,0,by simp [setPlace],rfl⟩
  · simp only [Chunk.has] at hj
    rw [zeroChk_has hzc] at hj
    simp at hj
theorem zero_size {t:TypeId} {e:TE} (h:tget T t = some e):∃ v,(∀ w,(zeroValue t).run P w = .ok v w)∧zeroChk e.zero v.cells.toList = true∧v.cells.size = e.size:=by
  obtain ⟨i,d,hi,hd,_,_,_,_,_,hz⟩:=(tab_ok hT h).ex
  rcases hz with ⟨vs,hz,ha,hc,hs⟩|⟨v,hz,h1,hc,ha,hc2,hs⟩
  · exact ⟨_,fun w=>by simp [zeroValue,typeInfo,hi,hz];rfl,by simpa [Value.cells] using hc,by simpa [Value.cells] using hs⟩
  · exact ⟨v,fun w=>by simp [zeroValue,typeInfo,hi,hz],by rw [hc];exact hc2,by rw [hc,hs];rfl⟩
omit hT in
theorem fillCells_length {place:Nat→Option (Nat × Nat)}:∀ (parts:List (Nat × AV)) (cs cs':List AV),fillCells place parts cs = some cs'→cs'.length = cs.length
  | [],cs,cs',h=>by simp only [fillCells,Option.some.injEq] at h;rw [h]
  | (i,v) :: r,cs,cs',h=>by
    simp only [fillCells] at h
    split at h
    · split at h
      · rename_i off size us _ _ h1 h2
        have h1:=Nat.eq_of_beq_eq_true h1
        have h2:=Nat.le_of_ble_eq_true h2
        rw [fillCells_length r _ cs' h]
        simp
        omega
      · simp at h
    · simp at h
theorem flo_buildSlice {gl:Gl} {lk:Heap} {ev:Operand→AV} {id:Nat} {t et:TypeId} {e ee:TE} {len:Nat} {parts:Array (Nat × Operand)} {ty:Ty} {cs:List AV} {xs:List ty.D}
    (he:tget T t = some e) (hk:e.k = .slice et) (hee:tget T et = some ee) (hsz:ee.size = ty.size) (hle:len * ee.size≤1000)
    (hcs:fillCells (fun i=>some (i * ee.size,ee.size)) (parts.toList.map fun p=>(p.1,ev p.2)) (zerosOf ee.zero len) = some cs) (hxs:assembleN ty len cs = some xs)
    (o:Oper) (ho:o.op = .buildSlice t len parts):Flo P gl o ev lk id (.own id len) (some (.arr ty xs)):=by
  obtain ⟨z,hz,hzc,hzs⟩:=zero_size hT hee
  refine flo_new hT (fun φ R a w hr hc hR=>?_) (fun j hj=>by simp [AV.has] at hj;exact hj.symm) (fun j hj=>by simp [Chunk.has] at hj)
  have hin:∀ p∈parts.toList,p.2∈o.op.operands:=fun p hp=>by rw [ho];simp only [Op.operands];simp;exact ⟨p.1,by simpa using hp⟩
  have hzr:RepVs φ R w (zerosOf ee.zero len) ((Array.range (len * z.cells.size)).map (z.cells[· % z.cells.size]!)).toList:=zeros_rep (zeroChk_rep hzc) len
  obtain ⟨us',hf,hu⟩:=fill_sound (φ:=φ) (R:=R) (w:=w) (ρ:=a.eval) parts.toList _ cs _ hcs hzr (fun p hp=>hr p.2 (hin p hp))
  obtain ⟨hxl,hxe⟩:=assembleN_rep len cs xs us'.toList hxs hu
  have hul:us'.size = len * ty.size:=by
    have h1:=hu.length
    have h2:=fillCells_length _ _ _ hcs
    have h3:=hzr.length
    simp only [Array.length_toList,Array.size_map,Array.size_range] at h1 h3
    rw [h1,h2,← h3,hzs,hsz]
  have hd:=tk_slice hT he hk
  refine ⟨us',et,(0,0),len,w.drawn,.slice (some ⟨w.heap.size,0,none⟩) len len,?_,?_,?_⟩
  · simp only [execOp,ho,Instr.buildSlice,Sem.run_bind,run_underlying hd,Result.andThen_ok,run_sizeOf_tab hT hee]
    rw [if_neg (by omega)]
    by_cases h0:len * ee.size = 0
    · have e0:((Array.range (len * z.cells.size)).map (z.cells[· % z.cells.size]!)) = #[]:=by rw [hzs,h0,Array.range_zero'];simp
      rw [e0] at hf
      simp only [h0,if_true,Sem.run_pure,Result.andThen_ok,Array.range_zero',List.map_toArray,List.map_nil,Array.toList_map,hf,Sem.run_bind,newRow,run_newObj]
      try rfl
    · simp only [h0,if_false,Sem.run_bind,hz,Sem.run_pure,Result.andThen_ok,Array.toList_map]
      rw [hzs] at hf
      rw [hzs,hf]
      rfl
  · refine .inr ⟨w.heap.size,len,us',et,(0,0),by simp [setPlace],pushed_get _ _ _,hul,by omega,fun i hi=>Rep.push hR (hxe i hi),not_prot_new hR,noFr_zero _⟩
  · simp only [RepV]
    exact .inr ⟨w.heap.size,len,by simp [setPlace],Nat.le_refl _,rfl⟩
theorem flo_call {gl:Gl} {lk:Heap} {ev:Operand→AV} {id:Nat} {f:Operand} {args:Array Operand} {ats:Array TypeId} {g:FuncId} {caps:List AV} {ret:AV}
    (hf:ev f = .fn g caps) (hret:∀ j,ret.has j = false) (hs:PSpec P gl g (args.toList.map ev ++ caps) ret) (o:Oper) (ho:o.op = .call ⟨.value f,args,ats⟩) :
    Flo P gl o ev lk id ret none where
  run φ R a w hr hc hR hgl next Q hnext:=by
    obtain ⟨⟨fn,hfn,hname,hbody⟩,hs⟩:=hs
    have hfr:=hr f (by simp [ho,Op.operands,Call.operands])
    rw [hf] at hfr
    simp only [RepV] at hfr
    obtain ⟨cv,hfv,hcaps⟩:=hfr
    have hargs:RepVs φ R w (args.toList.map ev ++ caps) ((args.map a.eval).toList ++ cv.toList):=by
      refine RepVs.append ?_ hcaps
      rw [Array.toList_map]
      exact repVs_map _ _ _ (fun x hx=>hr x (by simp [ho,Op.operands,Call.operands];exact .inr (by simpa using hx)))
    have hcall:=hs φ R w _ ⟨fun _ _ h=>by simp [noHeap] at h,fun _ _ _ _ _ _ _ _ _ h=>by simp [noHeap] at h⟩ hR hgl hargs
    have hrun:(execOp a.eval o).run P w = .ok (.enter g ((args.map a.eval).toList ++ cv.toList).toArray) w:=by
      simp only [execOp,ho,resolve,hfv,Deferred.ofValue,invoke,callFunc,Sem.run_bind,Sem.run_pure,Result.andThen_ok,run_program,hfn,hname,hbody,Bool.false_eq_true,if_false]
      congr 2
      apply Array.ext'
      simp
    unfold Oper.wp
    rw [hrun,Oper.upon_enter]
    refine hcall.mono ?_
    rintro e w' ⟨v,φ',R',rfl,hv,hh,hrb,hevo,_⟩
    refine hnext φ R' w' v ⟨⟨hevo.os,hevo.tape,hevo.output,hevo.size,fun b hb _=>hevo.keep b hb (by rintro ⟨_,_,_,_,h,_⟩;simp [noHeap] at h),hevo.rmono,hevo.rkeep,fun b o' h=>?_,fun b h=>by simp at h⟩,hrb,fun _ _=>rfl,fun _ h=>by simp at h,fun _ h=>by simp at h⟩ ?_
    · rcases hevo.rnew b o' h with h|h|h
      · exact .inl h
      · exact .inr (.inl h)
      · obtain ⟨_,_,_,_,h,_⟩:=h
        simp [noHeap] at h
    · exact RepV.mono (fun _ _ h=>h) (fun _ _ _=>rfl) (fun j hj=>by rw [hret j] at hj;exact absurd hj (by simp)) hv
  names j hj:=by rw [hret j] at hj;simp at hj
  cnames cs j h:=by simp at h
def NSpec (P:Program) (gl:Gl) (f:FuncId) (args:List AV) (cs:List AV):Prop:=∃ k,FSpec P gl f args noHeap (.loc k 0) (fun j=>lookup j [(k,.box cs)])
theorem flo_callNew {gl:Gl} {lk:Heap} {ev:Operand→AV} {id:Nat} {f:Operand} {args:Array Operand} {ats:Array TypeId} {g:FuncId} {caps:List AV} {cs:List AV}
    (hf:ev f = .fn g caps) (hcs:∀ j,AV.hasAny j cs = false) (hs:NSpec P gl g (args.toList.map ev ++ caps) cs) (o:Oper) (ho:o.op = .call ⟨.value f,args,ats⟩) :
    Flo P gl o ev lk id (.loc id 0) (some (.box cs)) where
  run φ R a w hr hc hR hgl next Q hnext:=by
    obtain ⟨k,⟨fn,hfn,hname,hbody⟩,hs⟩:=hs
    have hfr:=hr f (by simp [ho,Op.operands,Call.operands])
    rw [hf] at hfr
    simp only [RepV] at hfr
    obtain ⟨cv,hfv,hcaps⟩:=hfr
    have hargs:RepVs φ R w (args.toList.map ev ++ caps) ((args.map a.eval).toList ++ cv.toList):=by
      refine RepVs.append ?_ hcaps
      rw [Array.toList_map]
      exact repVs_map _ _ _ (fun x hx=>hr x (by simp [ho,Op.operands,Call.operands];exact .inr (by simpa using hx)))
    have hcall:=hs φ R w _ ⟨fun _ _ h=>by simp [noHeap] at h,fun _ _ _ _ _ _ _ _ _ h=>by simp [noHeap] at h⟩ hR hgl hargs
    have hrun:(execOp a.eval o).run P w = .ok (.enter g ((args.map a.eval).toList ++ cv.toList).toArray) w:=by
      simp only [execOp,ho,resolve,hfv,Deferred.ofValue,invoke,callFunc,Sem.run_bind,Sem.run_pure,Result.andThen_ok,run_program,hfn,hname,hbody,Bool.false_eq_true,if_false]
      congr 2
      apply Array.ext'
      simp
    unfold Oper.wp
    rw [hrun,Oper.upon_enter]
    refine hcall.mono ?_
    rintro e w' ⟨v,φ',R',rfl,hv,hh,hrb,hevo,_⟩
    have hself:lookup k [(k,Chunk.box cs)] = some (.box cs):=by rw [lookup_cons];simp
    obtain ⟨b,cap,vs,te,fr,hp,hb,hrs,hnR,hnf⟩:=hh.rel k _ hself
    have hnew:w.heap.size≤b:=by
      rcases hevo.onew b (Owns.main hself hp) with h|⟨_,_,_,_,h,_⟩
      · exact h
      · simp [noHeap] at h
    have hid:setPlace φ id (φ' k) id = some (b,cap):=by simp [setPlace,hp]
    refine hnext (setPlace φ id (φ' k)) R' w' v ⟨⟨hevo.os,hevo.tape,hevo.output,hevo.size,fun b hb _=>hevo.keep b hb (by rintro ⟨_,_,_,_,h,_⟩;simp [noHeap] at h),hevo.rmono,hevo.rkeep,fun b o' h=>?_,fun b2 h=>?_⟩,hrb,fun j hj=>by simp [setPlace,hj],fun ch h=>?_,fun ch h=>by (simp only [Option.some.injEq] at h;subst h;intro _ _ _ h;exact h)⟩ ?_
    · rcases hevo.rnew b o' h with h|h|h
      · exact .inl h
      · exact .inr (.inl h)
      · obtain ⟨_,_,_,_,h,_⟩:=h
        simp [noHeap] at h
    · obtain ⟨_,cap2,h2⟩:=h
      rw [hid] at h2
      simp only [Option.some.injEq,Prod.mk.injEq] at h2
      exact .inl (by omega)
    · simp only [Option.some.injEq] at h
      subst h
      refine ⟨⟨b,cap,vs,te,fr,hid,hb,RepVs.mono (fun _ _ h=>h) (fun _ _ _=>rfl) (fun j hj=>by rw [hcs j] at hj;exact absurd hj (by simp)) hrs,hnR,hnf⟩,fun b2 cap2 h2=>?_⟩
      rw [hid] at h2
      simp only [Option.some.injEq,Prod.mk.injEq] at h2
      omega
    · simp only [RepV] at hv ⊢
      obtain ⟨b',cap',h1,h2⟩:=hv
      rw [hp] at h1
      simp only [Option.some.injEq,Prod.mk.injEq] at h1
      obtain ⟨rfl,rfl⟩:=h1
      exact ⟨b,cap,hid,h2⟩
  names j hj:=by simp [AV.has] at hj;exact .inr ⟨hj.symm,rfl⟩
  cnames ch' j h hj:=by
    simp only [Option.some.injEq] at h
    subst h
    simp only [Chunk.has] at hj
    rw [hcs j] at hj;simp at hj
theorem run_typeInfo_tab {t:TypeId} {e:TE} (h:tget T t = some e):∃ i,(∀ w,(typeInfo t).run P w = .ok i w)∧i.bytes = e.bytes∧i.size = e.size:=by
  obtain ⟨i,d,hi,_,hs,hb,_⟩:=(tab_ok hT h).ex
  exact ⟨i,fun w=>by simp [typeInfo,hi],hb,hs⟩
theorem flo_makeSlice {gl:Gl} {lk:Heap} {ev:Operand→AV} {id:Nat} {t et:TypeId} {e ee:TE} {xl xc:Operand} {l c:Int} {ty:Ty} {z0:ty.D} {zr:List AV}
    (he:tget T t = some e) (hk:e.k = .slice et) (hee:tget T et = some ee) (hsz:ee.size = ty.size) (hz0:assemble ty ee.zero = some (z0,zr))
    (hl:ev xl = .int .i64 l) (hc:ev xc = .int .i64 c) (h0:0≤l) (h1:l≤c) (h2:c * ee.bytes≤140737488355328) (h3:c≤140737488355328)
    (o:Oper) (ho:o.op = .makeSlice t xl xc):Flo P gl o ev lk id (.own id l.toNat) (some (.arr ty (List.replicate l.toNat z0))):=by
  obtain ⟨z,hz,hzc,hzs⟩:=zero_size hT hee
  obtain ⟨ti,hti,htb,hts⟩:=run_typeInfo_tab hT hee
  refine flo_new hT (fun φ R a w hr hch hR=>?_) (fun j hj=>by simp [AV.has] at hj;exact hj.symm) (fun j hj=>by simp [Chunk.has] at hj)
  have hlv:=hr xl (by simp [ho,Op.operands])
  have hcv:=hr xc (by simp [ho,Op.operands])
  rw [hl] at hlv
  rw [hc] at hcv
  simp only [RepV] at hlv hcv
  have hd:=tk_slice hT he hk
  have hzr:RepVs φ R w (zerosOf ee.zero c.toNat) ((Array.range (c.toNat * z.cells.size)).map (z.cells[· % z.cells.size]!)).toList:=zeros_rep (zeroChk_rep hzc) _
  refine ⟨(Array.range (c.toNat * z.cells.size)).map (z.cells[· % z.cells.size]!),et,(0,0),c.toNat,w.drawn,.slice (some ⟨w.heap.size,0,none⟩) l.toNat c.toNat,?_,?_,?_⟩
  · have wl:IntKind.i64.wrap l = l:=IntWalk.i64_in l (by omega)
    have wc:IntKind.i64.wrap c = c:=IntWalk.i64_in c (by omega)
    have hb:(ti.bytes:Int) * c≤140737488355328:=by rw [htb,Int.mul_comm];exact h2
    have hnt:(decide (c < 0) || decide ((ti.bytes:Int) * c > 2 ^ 48)) = false:=by
      simp only [Bool.or_eq_false_iff,decide_eq_false_iff_not]
      exact ⟨by omega,by omega⟩
    simp only [execOp,ho,hlv,hcv,Instr.makeSlice,asInt,asIntOf,Sem.run_bind,run_underlying hd,Result.andThen_ok,Sem.run_pure,hti,wl,wc,hnt,run_askRoom,run_sizeOf_tab hT hee]
    rw [if_neg (by simp;omega)]
    simp only [Sem.run_bind,run_askRoom,Result.andThen_ok,run_sizeOf_tab hT hee]
    by_cases hn:c.toNat * ee.size = 0
    · have e0:((Array.range (c.toNat * z.cells.size)).map (z.cells[· % z.cells.size]!)) = #[]:=by rw [hzs,hn,Array.range_zero'];simp
      rw [e0]
      simp only [hn,if_true,Sem.run_pure,Result.andThen_ok,Array.range_zero',newRow,Sem.run_bind,run_newObj]
      simp [pushed]
    · simp only [hn,if_false,Sem.run_bind,hz,Sem.run_pure,Result.andThen_ok,newRow,run_newObj,hzs]
      rfl
  · refine .inr ⟨w.heap.size,c.toNat,_,et,(0,0),by simp [setPlace],pushed_get _ _ _,by simp [hzs,hsz],by simp;omega,fun i hi=>Rep.push hR ?_,not_prot_new hR,noFr_zero _⟩
    simp only [List.length_replicate] at hi
    simp only [List.getElem_replicate]
    have hsub:=RepVs.take ty.size (RepVs.drop (i * ty.size) hzr)
    have hzl:ee.zero.length = ty.size:=by have:=(zeroChk_rep (φ:=φ) (R:=R) (w:=w) hzc).length;simp at this;omega
    have heq:∀ n i,i < n→((zerosOf ee.zero n).drop (i * ty.size)).take ty.size = ee.zero:=by
      intro n
      induction n with
      | zero=>intro i h;omega
      | succ n ih=>
        intro i h
        cases i with
        | zero=>simp [zerosOf,← hzl]
        | succ i=>
          simp only [zerosOf]
          rw [List.drop_append,hzl,Nat.add_mul,Nat.one_mul,Nat.add_sub_cancel,List.drop_of_length_le (by rw [hzl];omega),List.nil_append]
          exact ih i (by omega)
    rw [heq c.toNat i (by omega)] at hsub
    obtain ⟨us,ws,hvs,hrep,_⟩:=assemble_rep hz0 hsub
    have hul:=hrep.length
    rw [hvs]
    have hwl:=congrArg List.length hvs
    simp only [List.length_take,List.length_drop,List.length_append] at hwl
    have:ws = []:=by
      apply List.eq_nil_of_length_eq_zero
      omega
    rw [this,List.append_nil]
    exact hrep
  · simp only [RepV]
    exact .inr ⟨w.heap.size,c.toNat,by simp [setPlace],by omega,rfl⟩
omit hT in
theorem push_modify (h:Array Obj) (o:Obj) (f:Obj→Obj):(h.push o).modify h.size f = h.push (f o):=by
  apply Array.ext (by simp)
  intro i h1 h2
  simp only [Array.getElem_modify,Array.getElem_push]
  simp at h1 h2
  by_cases hi:i = h.size
  · subst hi;simp
  · have:i < h.size:=by omega
    simp [this,Ne.symm hi]
theorem flo_bytes {gl:Gl} {lk:Heap} {ev:Operand→AV} {id:Nat} {s d et:TypeId} {ds e ee:TE} {x:Operand} {str:List UInt8}
    (hs:tget T s = some ds) (he:tget T d = some e) (hk:e.k = .slice et) (hee:tget T et = some ee) (hk2:ee.k = .int .u8) (hx:ev x = .str str)
    (o:Oper) (ho:o.op = .convert s d x):Flo P gl o ev lk id (.own id str.length) (some (.arr (.int .u8) (intsOf str))):=by
  obtain ⟨dd,hds,_⟩:=tab_k hT hs
  refine flo_new hT (fun φ R a w hr hch hR=>?_) (fun j hj=>by simp [AV.has] at hj;exact hj.symm) (fun j hj=>by simp [Chunk.has] at hj)
  have hxv:=hr x (by simp [ho,Op.operands])
  rw [hx] at hxv
  simp only [RepV] at hxv
  obtain ⟨cap,hcap,hcut⟩:∃ cap,str.length≤cap∧(Question.appendCap str.length 0 et).cut (w.tape w.drawn (.appendCap str.length 0 et)) = cap:=⟨_,by simp [Question.cut],rfl⟩
  let cells:Array Value:=((bs str).data.map fun b=>Value.int .u8 b.toNat) ++ Array.replicate (cap - str.length) (.int .u8 0)
  have hcs:cells.size = cap:=by simp [cells,bs];omega
  refine ⟨cells,et,(cap,cap + 1),cap,w.drawn + 1,.slice (some ⟨w.heap.size,0,none⟩) str.length cap,?_,?_,?_⟩
  · simp only [execOp,ho,hxv,convert,Sem.run_bind,run_underlying hds,run_underlying (tk_slice hT he hk),run_underlying (tk_int hT hee hk2),Result.andThen_ok,Conv.stringToBytes,run_choose,Question.forced,Bool.false_eq_true,if_false,bs_size,hcut,newRow,run_newObj,Sem.run_pure,markStringish,run_shape]
    have hsh:(⟨w.heap.push (.cells cells et),w.tape,w.drawn + 1,w.os,w.output⟩:World).shape? w.heap.size = some (et,cap):=by
      simp [World.shape?,hcs]
    have hcells:((bs str).data.map fun b=>Value.int .u8 b.toNat) ++ Array.replicate (cap - str.length) (.int .u8 0) = cells:=rfl
    rw [hcells,hsh]
    simp only [run_freeze,Result.andThen_ok,World.freeze]
    have hz:¬ (1:Nat) = 0:=by omega
    simp only [if_neg hz,push_modify]
    rfl
  · refine .inr ⟨w.heap.size,cap,cells,et,(cap,cap + 1),by simp [setPlace],pushed_get _ _ _,by simp [hcs,Ty.size],by simp [intsOf];exact hcap,fun i hi=>?_,not_prot_new hR,fun o' ho' h=>by rw [hcs] at ho';simp at h;omega⟩
    simp only [intsOf,List.length_map] at hi
    simp only [Rep,Ty.size,Nat.mul_one,intsOf,List.getElem_map]
    have hlt:i < cells.toList.length:=by simp [hcs];omega
    rw [List.drop_eq_getElem_cons hlt,List.take_succ_cons,List.take_zero]
    congr 1
    simp only [Array.getElem_toList]
    rw [Array.getElem_append_left (by simp [bs];exact hi)]
    simp [bs]
  · simp only [RepV]
    exact .inr ⟨w.heap.size,cap,by simp [setPlace],hcap,rfl⟩
theorem floV_sound {gl:Gl} {lk:Heap} {ev:Operand→AV} {id:Nat} {op:Op} {K:AV→Option Chunk→Prop} (h:floV P T gl lk ev id op K) (hid:∀ x∈op.operands,(ev x).has id = false) (o:Oper) (ho:o.op = op) :
    ∃ v c,K v c∧Flo P gl o ev lk id v c:=by
  unfold floV at h
  split at h
  · split at h
    · rename_i t x _ cs hx
      exact ⟨_,_,h,flo_box hT hx (hid x (by simp [Op.operands])) o ho⟩
    · exact h.elim
  · split at h
    · rename_i e he
      exact ⟨_,_,h,flo_alloc hT he o ho⟩
    · exact h.elim
  · split at h
    · rename_i e he
      split at h
      · rename_i et hk
        split at h
        · rename_i ee ty hee hty
          split at h
          · rename_i h1 h2
            split at h
            · rename_i xs hlit
              obtain ⟨cs,hcs,hxs⟩:=litSlice_sound hlit
              exact ⟨_,_,h,flo_buildSlice hT he hk hee (Nat.eq_of_beq_eq_true h1) (Nat.le_of_ble_eq_true h2) hcs hxs o ho⟩
            · exact h.elim
          · exact h.elim
        · exact h.elim
      · exact h.elim
    · exact h.elim
  · split at h
    · rename_i e l c he hl hc
      split at h
      · rename_i et hk
        split at h
        · rename_i ee ty hee hty
          split at h
          · rename_i z0 zr h1 h2
            obtain ⟨⟨h3,h4,h5,h6⟩,h⟩:=h
            exact ⟨_,_,h,flo_makeSlice hT he hk hee (Nat.eq_of_beq_eq_true h1) h2 hl hc h3 h4 h5 h6 o ho⟩
          · exact h.elim
        · exact h.elim
      · exact h.elim
    · exact h.elim
  · split at h
    · rename_i str e hx he
      split at h
      · rename_i et hk
        split at h
        · rename_i ee hee
          split at h
          · rename_i hk2
            obtain ⟨⟨ds,hds⟩,hl,h⟩:=h
            exact ⟨_,_,h,flo_bytes hT hds he hk hee hk2 hx o ho⟩
          · exact h.elim
        · exact h.elim
      · exact flo_pure hT h o ho
    · exact flo_pure hT h o ho
  · split at h
    · rename_i hf
      obtain ⟨ret,h1,h2,h3⟩:=h
      exact ⟨_,_,h3,flo_call hT hf h1 h2 o ho⟩
    · exact h.elim
  · obtain ⟨v,h1,h2⟩:=h
    exact ⟨_,_,h2,flo_read hT h1 o ho⟩
  · exact flo_pure hT h o ho
end
end Go.Fw

/-
  A part of a proved evaluator for closed runs. No conditions.
-/
import Derived.Test.YtemlpgeadepmcaaGreatDoorR7
namespace Go.Rn
open Go Go.RowKit
set_option linter.unusedVariables false
set_option linter.unusedSimpArgs false

/-- Names that are still free; all that are taken, or will be, are among B. -/
structure Fresh (B D : Nm) (n N : Nat) : Prop where
  free : ∀ k, n ≤ k → k < N → ¬ D k
  inB : ∀ k, D k → B k
  new : ∀ k, n ≤ k → k < N → B k

theorem runM_nx' : ∀ (m : M) (S : St) (o : Out) (S' : St), runM m S = some (o, S') → S.nx ≤ S'.nx := by
  intro m
  induction m with
  | ret o => intro S o' S' h; simp only [runM, Option.some.injEq, Prod.mk.injEq] at h; obtain ⟨rfl, rfl⟩ := h; exact Nat.le_refl _
  | fail => intro S o' S' h; cases h
  | rd k f ih =>
    rintro ⟨hp, nx, fl, lg⟩ o S' h
    simp only [runM] at h
    split at h
    · rename_i b hb
      rcases touchK_spec (none : Option (Out × St)) fl lg k false with h1 | ⟨lg', h1, _⟩
      · rw [h1] at h; cases h
      · rw [h1] at h; exact ih b ⟨hp, nx, fl, lg'⟩ _ _ h
    · cases h
  | wr k b m ih =>
    rintro ⟨hp, nx, fl, lg⟩ o S' h
    simp only [runM] at h
    split at h
    · rcases touchK_spec (none : Option (Out × St)) fl lg k true with h1 | ⟨lg', h1, _⟩
      · rw [h1] at h; cases h
      · rw [h1] at h
        cases hf : fits 64 k with
        | false => rw [Tr.setK_bad _ _ _ _ _ hf] at h; cases h
        | true => rw [Tr.setK_good _ _ _ _ _ hf] at h; exact ih ⟨_, nx, fl, lg'⟩ _ _ h
    · cases h
  | new b f ih =>
    rintro ⟨hp, nx, fl, lg⟩ o S' h
    simp only [runM] at h
    cases hf : fits 64 nx with
    | false => rw [Tr.setK_bad _ _ _ _ _ hf] at h; cases h
    | true =>
      rw [Tr.setK_good _ _ _ _ _ hf, forceN_eq] at h
      rcases newLogK_spec (none : Option (Out × St)) fl lg nx with hl | ⟨lg', hl, _⟩
      · rw [hl] at h; cases h
      rw [hl] at h
      have := ih nx _ _ _ h
      simp only at this ⊢; omega
  | sub m f ihm ihf =>
    rintro ⟨hp, nx, fl, lg⟩ o S' h
    cases nx with
    | zero => cases h
    | succ nxp =>
    simp only [runM] at h
    split at h
    · rename_i x hp1 nx1 fl1 lg1 hm
      have h1 := ihm _ _ _ hm
      simp only at h1
      cases fl with
      | zero => simp only at h; have := ihf x lg1 _ _ _ h; simp only at this ⊢; omega
      | succ fl =>
        simp only at h
        obtain ⟨c, hc, _⟩ := unionK_spec (β := Option (Out × St)) lg lg1
        rw [hc] at h
        have := ihf x lg1 _ _ _ h; simp only at this ⊢; omega
    · cases h

theorem runM_nx {m : M} {S : St} {out : Out × St} (h : runM m S = some out) : S.nx ≤ out.2.nx := runM_nx' m S out.1 out.2 h

theorem runM_fail {S : St} {out : Out × St} (h : runM .fail S = some out) : False := by cases h

theorem runM_rd {k : Nat} {f : Blk → M} {S : St} {out : Out × St} (h : runM (.rd k f) S = some out) :
    ∃ b lg', S.hp.get k = some b ∧ runM (f b) ⟨S.hp, S.nx, S.fl, lg'⟩ = some out := by
  obtain ⟨hp, nx, fl, lg⟩ := S
  simp only [runM] at h
  split at h
  · rename_i b hb
    rcases touchK_spec (none : Option (Out × St)) fl lg k false with h1 | ⟨lg', h1, _⟩
    · rw [h1] at h; cases h
    · rw [h1] at h; exact ⟨b, lg', hb, h⟩
  · cases h

theorem runM_wr {k : Nat} {b : Option Blk} {m : M} {S : St} {out : Out × St} (h : runM (.wr k b m) S = some out) :
    ∃ b0 hp' lg', S.hp.get k = some b0 ∧ (∀ j, hp'.get j = if j = k then b else S.hp.get j) ∧ runM m ⟨hp', S.nx, S.fl, lg'⟩ = some out := by
  obtain ⟨hp, nx, fl, lg⟩ := S
  simp only [runM] at h
  split at h
  · rename_i b0 hb0
    rcases touchK_spec (none : Option (Out × St)) fl lg k true with h1 | ⟨lg', h1, _⟩
    · rw [h1] at h; cases h
    · rw [h1] at h
      cases hf : fits 64 k with
      | false => rw [Tr.setK_bad _ _ _ _ _ hf] at h; cases h
      | true => rw [Tr.setK_good _ _ _ _ _ hf] at h; exact ⟨b0, _, lg', hb0, Tr.get_upd _ _ _ _ hf, h⟩
  · cases h

theorem runM_new {b : Blk} {f : Nat → M} {S : St} {out : Out × St} (h : runM (.new b f) S = some out) :
    ∃ hp' lg', (∀ j, hp'.get j = if j = S.nx then some b else S.hp.get j) ∧ runM (f S.nx) ⟨hp', S.nx + 1, S.fl, lg'⟩ = some out ∧ S.nx < out.2.nx := by
  obtain ⟨hp, nx, fl, lg⟩ := S
  simp only [runM] at h
  cases hf : fits 64 nx with
  | false => rw [Tr.setK_bad _ _ _ _ _ hf] at h; cases h
  | true =>
    rw [Tr.setK_good _ _ _ _ _ hf, forceN_eq] at h
    rcases newLogK_spec (none : Option (Out × St)) fl lg nx with hl | ⟨lg', hl, _⟩
    · rw [hl] at h; cases h
    rw [hl] at h
    have := runM_nx h
    exact ⟨_, lg', Tr.get_upd _ _ _ _ hf, h, by simp only at this ⊢; omega⟩

theorem Fresh.next {B D : Nm} {n N : Nat} (h : Fresh B D n N) (hn : n < N) : Fresh B (withN D n) (n + 1) N where
  free k h1 h2 hk := by
    rcases hk with rfl | hk
    · omega
    · exact h.free k (by omega) h2 hk
  inB k hk := by
    rcases hk with rfl | hk
    · exact h.new _ (Nat.le_refl _) hn
    · exact h.inB k hk
  new k h1 h2 := h.new k (by omega) h2
theorem Fresh.here {B D : Nm} {n N : Nat} (h : Fresh B D n N) (hn : n < N) : ¬ D n := h.free n (Nat.le_refl _) hn

/-- What is so behind an operation that yields a value. -/
def After (P : Program) (w0 : World) (out : Out × St) (B D : Nm) (μ : Mu) (K : AV → M) (r : Result Value) : Prop :=
  ∃ v S' D' μ' v' w', r = .ok v' w' ∧ runM (K v) S' = some out ∧ MemR P w0 D' μ' S'.hp w' ∧ Sees D D' μ μ' ∧ AVr D' μ' v v' ∧ Fresh B D' S'.nx out.2.nx

section
variable {P : Program} {tb : Tab} {w0 w w' : World} {B D D' : Nm} {μ μ' : Mu} {H H' : Tr Blk} {S : St} {out : Out × St} {K : AV → M}

/-- Nothing happens to memory. -/
theorem After.still (M : MemR P w0 D μ S.hp w) (F : Fresh B D S.nx out.2.nx) {v : AV} {v' : Value} (h : runM (K v) S = some out) (hv : AVr D μ v v') {r : Result Value} (hr : r = .ok v' w) : After P w0 out B D μ K r :=
  ⟨v, S, D, μ, v', w, hr, h, M, Sees.refl _ _, hv, F⟩

theorem After.pure (M : MemR P w0 D μ S.hp w) (F : Fresh B D S.nx out.2.nx) {e : Rn.M} (h : runM e S = some out) {s : Sem Value} (hy : Yl .fail e K D μ P s) : After P w0 out B D μ K (s.run P w) := by
  rcases hy with rfl | ⟨v, v', rfl, h1, h2⟩
  · exact (runM_fail h).elim
  · exact After.still M F h h2 (h1 w)

abbrev AV.p (k off : Nat) : AV := .g (.s (.p k off))

/-- A new block. -/
theorem After.fresh (M : MemR P w0 D μ S.hp w) (F : Fresh B D S.nx out.2.nx) {b : Blk} {f : Nat → AV} {x : Nat} (h : runM (.new b fun k => K (f k)) S = some out) (hown : b.own = true) {o : Obj} {v' : Value}
    (hb : ∀ (D' : Nm) (μ' : Mu), Sees D D' μ μ' → μ' S.nx = (w.heap.size, 0, x) → D' S.nx → HoldsB P D' μ' (w.alloc o) (w.heap.size, 0, x) b)
    (hv : ∀ (D' : Nm) (μ' : Mu), Sees D D' μ μ' → μ' S.nx = (w.heap.size, 0, x) → D' S.nx → AVr D' μ' (f S.nx) v') {r : Result Value} (hr : r = .ok v' (w.alloc o)) : After P w0 out B D μ K r := by
  obtain ⟨hp', lg', hg, hrun, hlt⟩ := runM_new h
  have hn := F.here hlt
  have Sn : Sees D (withN D S.nx) μ (ext μ S.nx (w.heap.size, 0, x)) := Sees.ext hn
  refine ⟨_, _, _, _, v', _, hr, hrun, M.alloc hn hown hg (hb _ _ Sn ext_new (.inl rfl)), Sn, hv _ _ Sn ext_new (.inl rfl), F.next hlt⟩

/-! ### new variables -/
def evAlloc (tb : Tab) (T : TypeId) (K : AV → M) : M := match tb.ty T with
  | some i => .new (.c T i.zero false) fun k => K (.p k 0)
  | none => .fail

theorem holds_new {D' : Nm} {μ' : Mu} {T : TypeId} {t : Rn.T} (ht : t.ok D') {C : Array Value} (hC : C = (t.vals μ').toArray) {x : Nat} : HoldsB P D' μ' (w.alloc (.cells C T)) (w.heap.size, 0, x) (.c T t false) := by
  refine ⟨ht, [], [], ?_, rfl, fun h => by cases h⟩
  rw [heap_alloc_new, hC]
  simp

theorem evAlloc_ok (hT : TabOk P tb) (M : MemR P w0 D μ S.hp w) (F : Fresh B D S.nx out.2.nx) {T : TypeId} (h : runM (evAlloc tb T K) S = some out) : After P w0 out B D μ K ((Instr.alloc T true (.tuple #[])).run P w) := by
  unfold evAlloc at h
  split at h
  · rename_i i hi
    have hok := hT.ty T i hi
    obtain ⟨z, hz, hzc⟩ := hok.run_zero w
    refine After.fresh M F (f := fun k => .p k 0) (x := 0) h rfl (o := .cells z.cells T) (v' := .pointer (some ⟨w.heap.size, 0, none⟩)) (fun D' μ' _ _ _ => holds_new hok.zok.ok ?_) (fun D' μ' _ hm hd => ?_) ?_
    · rw [← hzc μ']
    · exact ⟨by simp [GV.val, Sc.val, at_, hm], hd⟩
    · simp only [Instr.alloc, Sem.run_bind, hz, Result.andThen_ok]
      rfl
  · exact (runM_fail h).elim

def evBox (T : TypeId) (x : AV) (K : AV → M) : M := match x with
  | .g x => .new (.c T x.tree false) fun k => K (.p k 0)
  | _ => .fail

theorem evBox_ok (M : MemR P w0 D μ S.hp w) (F : Fresh B D S.nx out.2.nx) {T : TypeId} {x : AV} {a : Value} (hx : AVr D μ x a) (h : runM (evBox T x K) S = some out) : After P w0 out B D μ K ((Instr.box T a).run P w) := by
  unfold evBox at h
  split at h
  · rename_i x
    obtain ⟨rfl, hok⟩ := hx
    refine After.fresh M F (f := fun k => .p k 0) (x := 0) h rfl (o := .cells (x.val μ).cells T) (v' := .pointer (some ⟨w.heap.size, 0, none⟩)) (fun D' μ' hs _ _ => holds_new (GV.tree_ok (GV.sees hs hok).1) ?_) (fun D' μ' _ hm hd => ?_) ?_
    · rw [← GV.cells_val (GV.sees hs hok).1, (GV.sees hs hok).2]
    · exact ⟨by simp [GV.val, Sc.val, at_, hm], hd⟩
    · rfl
  · exact (runM_fail h).elim

/-! ### loads and stores -/
def evLoad (tb : Tab) (T : TypeId) (x : AV) (K : AV → M) : M := match x with
  | .g (.s (.p k off)) => match tb.ty T with
    | some i => .rd k fun b => match b with
      | .c _ t _ => ldT .fail i t off fun x => K (.g x)
      | .gl t => ldT .fail i t off fun x => K (.g x)
      | _ => .fail
    | none => .fail
  | _ => .fail

theorem evLoad_ok (hT : TabOk P tb) (M : MemR P w0 D μ S.hp w) (F : Fresh B D S.nx out.2.nx) {T : TypeId} {x : AV} {a : Value} (hx : AVr D μ x a) (h : runM (evLoad tb T x K) S = some out) : After P w0 out B D μ K ((Instr.loadAt T a).run P w) := by
  unfold evLoad at h
  split at h
  · rename_i k off
    obtain ⟨rfl, hok⟩ := hx
    split at h
    · rename_i i hi
      obtain ⟨b, lg', hb, h⟩ := runM_rd h
      have key : ∀ t : Rn.T, (∃ ty op, b = .c ty t op) ∨ b = .gl t → runM (ldT .fail i t off fun x => K (.g x)) ⟨S.hp, S.nx, S.fl, lg'⟩ = some out → After P w0 out B D μ K ((Instr.loadAt T ((GV.s (Sc.p k off)).val μ)).run P w) := by
        intro t ht h
        obtain ⟨hl, htok⟩ := Blk.lies M hb ht
        rcases ldT_spec (bad := Rn.M.fail) (μ := μ) (hT.ty T i hi) htok (off := off) hl (fun x => K (.g x)) with h1 | ⟨g, h1, h2, h3⟩
        · rw [h1] at h; exact (runM_fail h).elim
        · rw [h1] at h
          refine After.still (S := ⟨S.hp, S.nx, S.fl, lg'⟩) M F h ⟨rfl, h2⟩ ?_
          simp only [Instr.loadAt, GV.val, Sc.val, Instr.sureAddr, at_, Sem.run_bind, Sem.run_pure, Result.andThen_ok]
          exact h3
      split at h
      · exact key _ (.inl ⟨_, _, rfl⟩) h
      · exact key _ (.inr rfl) h
      · exact (runM_fail h).elim
    · exact (runM_fail h).elim
  · exact (runM_fail h).elim

def evStore (tb : Tab) (T : TypeId) (x y : AV) (K : AV → M) : M := match x, y with
  | .g (.s (.p k off)), .g y => match tb.ty T with
    | some i => match Nat.beq y.tree.size i.sz with
      | true => .rd k fun b => match b with
        | .c ty t op => match Nat.ble (off + y.tree.size) t.size with
          | true => t.layK off y.tree fun t' => .wr k (some (.c ty t' op)) (K .un)
          | false => .fail
        | _ => .fail
      | false => .fail
    | none => .fail
  | _, _ => .fail

/-- The same, of an operation that yields nothing. -/
abbrev AfterU (P : Program) (w0 : World) (out : Out × St) (B D : Nm) (μ : Mu) (K : AV → M) (s : Sem Unit) (w : World) : Prop := After P w0 out B D μ K ((do s; pure undef : Sem Value).run P w)

theorem AVr_un : AVr D μ .un undef := ⟨rfl, fun x hx => by cases hx⟩

theorem evStore_ok (hT : TabOk P tb) (M : MemR P w0 D μ S.hp w) (F : Fresh B D S.nx out.2.nx) {T : TypeId} {x y : AV} {a b : Value} (hx : AVr D μ x a) (hy : AVr D μ y b) (h : runM (evStore tb T x y K) S = some out) :
    AfterU P w0 out B D μ K (Instr.storeAt T a b) w := by
  unfold evStore at h
  split at h
  · rename_i k off y
    obtain ⟨rfl, hxo⟩ := hx
    obtain ⟨rfl, hyo⟩ := hy
    split at h
    · rename_i i hi
      split at h
      · rename_i hs
        have hs := Nat.eq_of_beq_eq_true hs
        obtain ⟨b, lg', hb, h⟩ := runM_rd h
        split at h
        · rename_i ty t op
          split at h
          · rename_i hle
            have hle := ble_iff.1 hle
            have hbok := M.ok k _ hb
            have hto : t.ok D := hbok.1
            have hyt := GV.tree_ok hyo
            obtain ⟨t', e1, e2, e3, e4⟩ := Rn.T.layK_spec (β := Rn.M) hto.1 hyt.1 hle
            rw [e1] at h
            obtain ⟨b0, hp', lg'', _, hg, h⟩ := runM_wr h
            obtain ⟨w', hw', M'⟩ := M.storeCells hb hyt hle e3 e2 hg
            refine ⟨.un, _, D, μ, undef, w', ?_, h, M', Sees.refl _ _, AVr_un, F⟩
            have hlen : (y.tree.vals μ).length = y.tree.size := Rn.T.vals_length hyt.1
            have hcells := GV.cells_val (μ := μ) hyo
            have hsize : (y.val μ).cells.size = i.sz := by rw [← hs, ← hlen, ← hcells]; simp
            show (do Instr.storeAt T (.pointer (some ⟨(μ k).1, (μ k).2.1 + off, none⟩)) (y.val μ); pure undef : Sem Value).run P w = _
            generalize y.val μ = yv at *
            simp only [Instr.storeAt, Instr.sureAddr, Sem.run_bind, Sem.run_pure, Result.andThen_ok, storeVar, (hT.ty T i hi).run_size]
            rw [hsize]
            simp only [ne_eq, not_true_eq_false, if_false, hcells, hw', Result.andThen_ok, Sem.run_pure]
          · exact (runM_fail h).elim
        · exact (runM_fail h).elim
      · exact (runM_fail h).elim
    · exact (runM_fail h).elim
  · exact (runM_fail h).elim

/-! ### addresses -/
def pFieldAddr {β : Type} (tb : Tab) (bad : β) (T : TypeId) (x : AV) (f : Nat) (K : AV → β) : β := match fieldOf tb T f, x with
  | some (fl, j), .g (.s (.p k off)) => match j.sz with
    | 0 => bad
    | _ + 1 => forceN (off + fl.offset) fun o => K (.p k o)
  | _, _ => bad

theorem at_add (k off n : Nat) : (at_ μ k off).add n = at_ μ k (off + n) := by
  unfold at_
  rw [Addr.add_mid, Nat.add_assoc]

theorem pFieldAddr_spec {β : Type} {bad : β} {K : AV → β} (hT : TabOk P tb) {T : TypeId} {f : Nat} {x : AV} {a : Value} (hx : AVr D μ x a) : Yl bad (pFieldAddr tb bad T x f K) K D μ P (Instr.fieldAt T a f) := by
  unfold pFieldAddr
  split
  · rename_i fl j k off hf
    obtain ⟨rfl, hok⟩ := hx
    obtain ⟨fs, hu, hfl, hj⟩ := fieldOf_spec hT hf
    split
    · exact .inl rfl
    · rename_i n hn
      refine .inr ⟨.p k (off + fl.offset), .pointer (some (at_ μ k (off + fl.offset))), by rw [forceN_eq], fun w => ?_, rfl, hok⟩
      simp only [Instr.fieldAt, Sem.run_bind, run_underlying hu, Result.andThen_ok, hfl, GV.val, Sc.val, Instr.sureAddr, Sem.run_pure, fieldPlace, (hT.ty _ j hj).run_size, hn]
      simp [at_add]
  · exact .inl rfl

def pIndexAddr {β : Type} (tb : Tab) (bad : β) (T : TypeId) (x ix : AV) (K : AV → β) : β := match tb.ty T, ix with
  | some i, .g (.s (.v (.int _ (.ofNat n)))) => match i.desc, x with
    | .array len e, .g (.s (.p k off)) => match tb.ty e with
      | some j => match Nat.blt n len with
        | true => forceN (off + n * j.sz) fun o => K (.p k o)
        | false => bad
      | none => bad
    | .slice e, .g (.s (.s k off len cap op)) => match tb.ty e with
      | some j => match Nat.blt n len with
        | true => forceN (off + n * j.sz) fun o => K (.p k o)
        | false => bad
      | none => bad
    | _, _ => bad
  | _, _ => bad

theorem pIndexAddr_spec {β : Type} {bad : β} {K : AV → β} (hT : TabOk P tb) {T : TypeId} {x ix : AV} {a b : Value} (hx : AVr D μ x a) (hy : AVr D μ ix b) : Yl bad (pIndexAddr tb bad T x ix K) K D μ P (Instr.indexAt T a b) := by
  unfold pIndexAddr
  split
  · rename_i i q n hi
    obtain ⟨rfl, _⟩ := hy
    have hu := (hT.ty T i hi).und
    split
    · rename_i len e k off hd
      rw [hd] at hu
      obtain ⟨rfl, hok⟩ := hx
      split
      · rename_i j hj
        split
        · rename_i hlt
          have hlt := blt_iff.1 hlt
          refine .inr ⟨.p k (off + n * j.sz), .pointer (some (at_ μ k (off + n * j.sz))), by rw [forceN_eq], fun w => ?_, rfl, hok⟩
          simp only [Instr.indexAt, Sem.run_bind, GV.val, Sc.val, asIntOf, Sem.run_pure, Result.andThen_ok, run_underlying hu, Instr.sureAddr]
          rw [if_pos ⟨by simp, by simp only [Int.ofNat_eq_natCast]; omega⟩]
          simp [(hT.ty e j hj).run_size, at_add]
        · exact .inl rfl
      · exact .inl rfl
    · rename_i e k off len cap op hd
      rw [hd] at hu
      obtain ⟨rfl, hok⟩ := hx
      split
      · rename_i j hj
        split
        · rename_i hlt
          have hlt := blt_iff.1 hlt
          refine .inr ⟨.p k (off + n * j.sz), .pointer (some (at_ μ k (off + n * j.sz))), by rw [forceN_eq], fun w => ?_, rfl, hok⟩
          simp only [Instr.indexAt, Sem.run_bind, GV.val, Sc.val, asIntOf, Sem.run_pure, Result.andThen_ok, run_underlying hu]
          rw [if_pos ⟨by simp, by simp only [Int.ofNat_eq_natCast]; omega⟩]
          simp [(hT.ty e j hj).run_size, at_add]
        · exact .inl rfl
      · exact .inl rfl
    · exact .inl rfl
  · exact .inl rfl
end
end Go.Rn

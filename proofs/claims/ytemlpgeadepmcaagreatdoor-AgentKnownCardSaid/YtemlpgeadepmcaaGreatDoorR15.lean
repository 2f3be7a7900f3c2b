/-
  A part of a proved evaluator for closed runs. No conditions.
-/
import Derived.Test.YtemlpgeadepmcaaGreatDoorR14
namespace Go.Rn
open Go Go.RowKit
set_option linter.unusedVariables false
set_option linter.unusedSimpArgs false

section
variable {P : Program} {tb : Tab} {w0 w w' : World} {B D D' : Nm} {μ μ' : Mu} {H H' : Tr Blk} {S : St} {out : Out × St} {K : AV → M}

theorem evCopy_ok (hT : TabOk P tb) (M : MemR P w0 D μ S.hp w) (F : Fresh B D S.nx out.2.nx) {T : TypeId} {x y : AV} {a b : Value} (hx : AVr D μ x a) (hy : AVr D μ y b) (ts : Array TypeId) (ty : TypeId) (h : runM (evCopy tb T x y K) S = some out) (hts : ts[0]? = some T) :
    After P w0 out B D μ K ((Builtin.copy_ ts ty #[a, b]).run P w) := by
  unfold evCopy at h
  split at h
  rotate_left
  · exact (runM_fail h).elim
  rename_i e j m n he hm hn
  obtain ⟨hu, hj⟩ := elemOf_spec hT he
  have hok := hT.ty e j hj
  obtain ⟨a1, c1, rfl⟩ := lenS_spec hx hm
  obtain ⟨a2, c2, rfl⟩ := lenS_spec hy hn
  simp only [forceN_eq] at h
  have hmin : Nat.min n m = min n m := rfl
  generalize hc : min n m = c at h
  have hrun : ∀ {new : List Value} {w'}, (Builtin.firstCells j.sz c (.slice a2 n c2)).run P w = .ok new.toArray w → (∀ x, a1 = some x → (Go.storeCells x new).run P w = .ok () w') → (a1 = none → w' = w) →
      (Builtin.copy_ ts ty #[.slice a1 m c1, .slice a2 n c2]).run P w = .ok (.int .i64 (.ofNat c)) w' := by
    intro new w' h1 h2 h3
    cases a1 with
    | none =>
      have := h3 rfl; subst this
      simp only [Builtin.copy_, Sem.run_bind, hts, List.getElem?_toArray, List.getElem?_cons_zero, List.getElem?_cons_succ, Sem.run_pure, Result.andThen_ok, run_underlying hu, Builtin.lenOf, hok.run_size, hmin, hc, h1]
      rfl
    | some x =>
      have := h2 x rfl
      simp only [Builtin.copy_, Sem.run_bind, hts, List.getElem?_toArray, List.getElem?_cons_zero, List.getElem?_cons_succ, Sem.run_pure, Result.andThen_ok, run_underlying hu, Builtin.lenOf, hok.run_size, hmin, hc, h1, this]
      rfl
  split at h
  · refine After.still M F h ⟨rfl, rfl⟩ (hrun (new := []) ?_ (fun _ _ => rfl) (fun _ => rfl))
    cases a2 <;> simp [Builtin.firstCells, loadCells, loadCellsFrom]
  · rename_i c
    obtain ⟨new, lg1, h, hnew, hns, hfn⟩ := cellsK_spec M hy h
    split at h
    · rename_i k off len cap op _
      obtain ⟨b0, lg2, hk, h⟩ := runM_rd h
      split at h
      · rename_i ty0 t o
        split at h
        · rename_i hle
          have hle := ble_iff.1 hle
          have hto : t.ok D := (M.ok k _ hk).1
          obtain ⟨t', e1, e2, e3, e4⟩ := Rn.T.layK_spec (β := Rn.M) hto.1 hnew.1 hle
          rw [e1] at h
          obtain ⟨_, hp', lg3, _, hg, h⟩ := runM_wr h
          obtain ⟨w', hw', M'⟩ := M.storeCells hk hnew hle e3 e2 hg
          have hxe := hx.1
          simp only [GV.val, Sc.val] at hxe
          injection hxe with q1 q2 q3
          refine ⟨_, _, D, μ, _, w', hrun (hfn w fun _ _ => rfl) (fun x hx2 => ?_) (fun hx2 => ?_), h, M', Sees.refl _ _, ⟨rfl, rfl⟩, F⟩
          · rw [q1] at hx2; injection hx2 with hx2; subst hx2; exact hw'
          · rw [q1] at hx2; cases hx2
        · exact (runM_fail h).elim
      · exact (runM_fail h).elim
    · exact (runM_fail h).elim

theorem evLen_ok (hT : TabOk P tb) (M : MemR P w0 D μ S.hp w) (F : Fresh B D S.nx out.2.nx) {T : TypeId} {x : AV} {a : Value} (hx : AVr D μ x a) (ty : TypeId) (h : runM (evLen tb T x K) S = some out) :
    After P w0 out B D μ K ((Builtin.len_ #[T] ty #[a]).run P w) := by
  unfold evLen at h
  split at h
  rotate_left
  · exact (runM_fail h).elim
  rename_i i hi
  have hu := (hT.ty T i hi).und
  split at h
  · rename_i e hd
    rw [hd] at hu
    split at h
    · rename_i n hn
      obtain ⟨a1, c1, rfl⟩ := lenS_spec hx hn
      exact After.still M F h ⟨rfl, rfl⟩ (by simp [Builtin.len_, run_underlying hu, goInt, GV.val, Sc.val])
    · exact (runM_fail h).elim
  · rename_i n e _ hd
    rw [hd] at hu
    exact After.still M F h ⟨rfl, rfl⟩ (by simp [Builtin.len_, run_underlying hu, goInt, GV.val, Sc.val])
  · rename_i s hd
    rw [hd] at hu
    rw [forceN_eq] at h
    obtain ⟨rfl, _⟩ := hx
    refine After.still M F h ⟨rfl, rfl⟩ ?_
    simp only [Builtin.len_, GV.val, Sc.val, Sem.run_bind, List.getElem?_toArray, List.getElem?_cons_zero, Sem.run_pure, Result.andThen_ok, run_underlying hu, goInt]
    rfl
  · rename_i k e hd
    rw [hd] at hu
    obtain ⟨rfl, _⟩ := hx
    exact After.still M F h ⟨rfl, rfl⟩ (by simp [Builtin.len_, run_underlying hu, goInt, GV.val, Sc.val])
  · rename_i kt e k hd
    rw [hd] at hu
    obtain ⟨rfl, _⟩ := hx
    obtain ⟨b0, lg2, hk, h⟩ := runM_rd h
    split at h
    · rename_i es clock
      rw [forceN_eq] at h
      have hb := (M.ok k _ hk).2
      refine After.still (S := ⟨S.hp, S.nx, S.fl, lg2⟩) M F h ⟨rfl, rfl⟩ ?_
      simp only [Builtin.len_, GV.val, Sc.val, Sem.run_bind, List.getElem?_toArray, List.getElem?_cons_zero, Sem.run_pure, Result.andThen_ok, run_underlying hu, goInt]
      have hg : (getObj (μ k).1).run P w = .ok (.map (es.map fun e => (⟨e.1.val μ, e.2.1.val μ, e.2.2⟩ : MapEntry)).toArray clock) w := by
        simp [getObj, Sem.run, hb]
      simp [hg]
    · exact (runM_fail h).elim
  · exact (runM_fail h).elim

/-! ### maps -/
def ent (μ : Mu) (e : GV × GV × Nat) : MapEntry := ⟨e.1.val μ, e.2.1.val μ, e.2.2⟩

theorem run_getMap (M : MemR P w0 D μ H w) {k : Nat} {es : List (GV × GV × Nat)} {clock : Nat} (hk : H.get k = some (.mp es clock)) : (getObj (μ k).1).run P w = .ok (.map (es.map (ent μ)).toArray clock) w := by
  have hb := (M.ok k _ hk).2
  simp only [getObj, Sem.run, hb]
  rfl

theorem findI_spec {q : IntKind} {n : Int} {kd : IntKind} : ∀ {es : List (GV × GV × Nat)} {i : Nat} {r : Option (Nat × GV)}, findI q n es i = some r →
    Instr.findNow (.int kd) (.int q n) (es.map (ent μ)) i = some (r.map fun p => (p.1, p.2.val μ)) ∧ ∀ p, r = some p → i ≤ p.1 ∧ ∃ b, es[p.1 - i]? = some (.s (.v (.int q n)), p.2, b)
  | [], i, r, h => by injection h with h; subst h; exact ⟨rfl, fun p hp => by cases hp⟩
  | (x, v, b) :: es, i, r, h => by
    cases x with
    | a t => cases h
    | s x => cases x with
      | v x => cases x with
        | int q' m =>
          simp only [findI] at h
          split at h
          · rename_i hq
            have := eqK_eq hq; subst this
            split at h
            · rename_i hn
              rw [eqF_eq] at hn
              have hn : n = m := by simpa using hn
              subst hn
              injection h with h; subst h
              refine ⟨?_, fun p hp => ?_⟩
              · simp [Instr.findNow, Instr.sameNow, ent, GV.val, Sc.val]
              · injection hp with hp; subst hp; exact ⟨Nat.le_refl _, b, by simp⟩
            · rename_i hn
              rw [eqF_eq] at hn
              obtain ⟨g1, g2⟩ := findI_spec h
              refine ⟨?_, fun p hp => ?_⟩
              · simp only [List.map_cons, Instr.findNow, ent, GV.val, Sc.val, Instr.sameNow, if_true, hn]
                exact g1
              · obtain ⟨k1, b2, k2⟩ := g2 p hp
                refine ⟨by omega, b2, ?_⟩
                rw [show p.1 - i = (p.1 - (i + 1)) + 1 by omega]
                simpa using k2
          · cases h
        | _ => cases h
      | _ => cases h

theorem keyTy_spec (hT : TabOk P tb) {T : TypeId} {j : TI} (h : keyTy tb T = some j) : ∃ k e kd, P.underlying T = some (.map k e) ∧ P.underlying k = some (.int kd) ∧ tb.ty e = some j := by
  unfold keyTy at h
  split at h
  · rename_i i hi
    split at h
    · rename_i k e hd
      split at h
      · rename_i kd j' hk he
        split at h
        · rename_i q hq
          injection h with h; subst h
          exact ⟨k, e, q, by rw [(hT.ty T i hi).und, hd], by rw [(hT.ty k kd hk).und, hq], he⟩
        · cases h
      · cases h
    · cases h
  · cases h

theorem run_checkKey' {k : TypeId} {kd : IntKind} (hk : P.underlying k = some (.int kd)) (b : Bool) (n : Nat) (v : Value) (w : World) : (Instr.checkKey b (n + 1) k v).run P w = .ok () w := by
  simp only [Instr.checkKey, Sem.run_bind, run_underlying hk, Result.andThen_ok]
  cases v <;> rfl
theorem run_checkKey {k : TypeId} {kd : IntKind} (hk : P.underlying k = some (.int kd)) (b : Bool) (v : Value) (w : World) : (Instr.checkKey b 10000 k v).run P w = .ok () w := run_checkKey' hk b 9999 v w

theorem run_findKey {k : TypeId} {kd : IntKind} (hk : P.underlying k = some (.int kd)) {v : Value} {es : List MapEntry} {r : Option (Nat × Value)} (h : Instr.findNow (.int kd) v es 0 = some r) (w : World) : (Instr.findKey k v es).run P w = .ok r w := by
  simp only [Instr.findKey, Sem.run_bind, run_underlying hk, Result.andThen_ok, h, Sem.run_pure]

theorem zeroG_spec (hT : TabOk P tb) {e : TypeId} {j : TI} (hj : tb.ty e = some j) {z : GV} (h : zeroG j = some z) : z.ok D ∧ ∀ w, (zeroValue e).run P w = .ok (z.val μ) w := by
  have hok := hT.ty e j hj
  obtain ⟨zv, h1, h2, h3⟩ := hok.run_zero2
  unfold zeroG at h
  split at h
  · rename_i ha
    injection h with h; subst h
    exact ⟨hok.zok.ok, fun w => by rw [h1]; rw [h2 ha μ]; rfl⟩
  · rename_i ha
    split at h
    · rename_i x hx
      injection h with h; subst h
      have := h3 ha μ
      rw [hx] at this
      simp only [Rn.T.vals, Rn.T.list, List.map_cons, List.map_nil, List.cons.injEq, and_true] at this
      refine ⟨?_, fun w => by rw [h1, ← this]; rfl⟩
      have hz : j.zero.ok D := hok.zok.ok
      rw [hx] at hz
      exact hz.2 x (by simp [Rn.T.list])
    · cases h

theorem run_lookup {T kt e : TypeId} {kd : IntKind} (hu : P.underlying T = some (.map kt e)) (hk : P.underlying kt = some (.int kd)) {q : IntKind} {n : Int} {ok : Bool} {m : Option Nat} {es : Array MapEntry} {clock : Nat}
    (hm : (m = none ∧ es = #[]) ∨ ∃ r, m = some r ∧ (getObj r).run P w = .ok (.map es clock) w) {r : Option (Nat × Value)} (hf : Instr.findNow (.int kd) (.int q n) es.toList 0 = some r) {v : Value} {o : Bool}
    (hv : (∃ i, r = some (i, v) ∧ o = true) ∨ (r = none ∧ (zeroValue e).run P w = .ok v w ∧ o = false)) :
    (Instr.lookup T (.map m) (.int q n) ok).run P w = .ok (if ok then .tuple #[v, .bool o] else v) w := by
  have hfk := run_findKey (P := P) hk hf w
  rcases hm with ⟨rfl, rfl⟩ | ⟨rr, rfl, hg⟩
  · simp only [Instr.lookup, Sem.run_bind, run_underlying hu, Result.andThen_ok, Sem.run_pure, run_checkKey hk, hfk]
    rcases hv with ⟨i, rfl, rfl⟩ | ⟨rfl, hz, rfl⟩
    · cases ok <;> simp
    · simp only [Sem.run_bind, hz, Result.andThen_ok, Sem.run_pure]
  · simp only [Instr.lookup, Sem.run_bind, run_underlying hu, Result.andThen_ok, Sem.run_pure, hg, run_checkKey hk, hfk]
    rcases hv with ⟨i, rfl, rfl⟩ | ⟨rfl, hz, rfl⟩
    · cases ok <;> simp
    · simp only [Sem.run_bind, hz, Result.andThen_ok, Sem.run_pure]

theorem fin_ok (hT : TabOk P tb) (M : MemR P w0 D μ S.hp w) (F : Fresh B D S.nx out.2.nx) {T kt e : TypeId} {kd : IntKind} {j : TI} (hu : P.underlying T = some (.map kt e)) (hk : P.underlying kt = some (.int kd)) (hj : tb.ty e = some j) {q : IntKind} {n : Int} {ok : Bool} {m : Option Nat}
    {es : List (GV × GV × Nat)} {clock : Nat} (hes : ∀ e ∈ es, e.1.ok D ∧ e.2.1.ok D) (hm : (m = none ∧ es = []) ∨ ∃ r, m = some r ∧ (getObj r).run P w = .ok (.map (es.map (ent μ)).toArray clock) w) {r : Option (Nat × GV)} (hf : findI q n es 0 = some r)
    (h : runM (finLk j ok K r) S = some out) : After P w0 out B D μ K ((Instr.lookup T (.map m) (.int q n) ok).run P w) := by
  obtain ⟨g1, g2⟩ := findI_spec (μ := μ) (kd := kd) hf
  have hm' : (m = none ∧ (es.map (ent μ)).toArray = #[]) ∨ ∃ r, m = some r ∧ (getObj r).run P w = .ok (.map (es.map (ent μ)).toArray clock) w := by
    rcases hm with ⟨h1, rfl⟩ | h1
    · exact .inl ⟨h1, rfl⟩
    · exact .inr h1
  have hbool : ∀ b : Bool, (GV.s (Sc.v (.bool b))).ok D := fun b => rfl
  cases r with
  | some p =>
    obtain ⟨i, v⟩ := p
    obtain ⟨_, b, hb⟩ := g2 _ rfl
    have hvok : v.ok D := (hes _ (List.mem_of_getElem? hb)).2
    have hrun := run_lookup (P := P) (ok := ok) hu hk hm' (r := some (i, v.val μ)) g1 (v := v.val μ) (o := true) (.inl ⟨i, rfl, rfl⟩)
    cases ok with
    | true => exact After.still M F h ⟨by simp [GV.val, Sc.val], fun x hx => by simp at hx; rcases hx with rfl | rfl; exact hvok; exact hbool _⟩ hrun
    | false => exact After.still M F h ⟨rfl, hvok⟩ hrun
  | none =>
    simp only [finLk] at h
    split at h
    · rename_i z hz
      obtain ⟨hzok, hzr⟩ := zeroG_spec (D := D) (μ := μ) hT hj hz
      have hrun := run_lookup (P := P) (ok := ok) hu hk hm' (r := none) g1 (v := z.val μ) (o := false) (.inr ⟨rfl, hzr w, rfl⟩)
      cases ok with
      | true => exact After.still M F h ⟨by simp [GV.val, Sc.val], fun x hx => by simp at hx; rcases hx with rfl | rfl; exact hzok; exact hbool _⟩ hrun
      | false => exact After.still M F h ⟨rfl, hzok⟩ hrun
    · exact (runM_fail h).elim

theorem evLookup_ok (hT : TabOk P tb) (M : MemR P w0 D μ S.hp w) (F : Fresh B D S.nx out.2.nx) {T : TypeId} {x y : AV} {a b : Value} (hx : AVr D μ x a) (hy : AVr D μ y b) {ok : Bool} (h : runM (evLookup tb T x y ok K) S = some out) :
    After P w0 out B D μ K ((Instr.lookup T a b ok).run P w) := by
  unfold evLookup at h
  split at h
  rotate_left
  · exact (runM_fail h).elim
  rename_i j q n hkt
  obtain ⟨kt, e, kd, hu, hk, hj⟩ := keyTy_spec hT hkt
  obtain ⟨rfl, _⟩ := hy
  split at h
  · obtain ⟨rfl, _⟩ := hx
    exact fin_ok (es := []) (clock := 0) (r := none) hT M F hu hk hj (fun _ h => by cases h) (.inl ⟨rfl, rfl⟩) rfl h
  · rename_i k
    obtain ⟨rfl, hxo⟩ := hx
    obtain ⟨b0, lg2, hb, h⟩ := runM_rd h
    split at h
    · rename_i es clock
      split at h
      · rename_i r hr
        exact fin_ok (S := ⟨S.hp, S.nx, S.fl, lg2⟩) (clock := clock) hT M F hu hk hj (M.ok k _ hb).1 (.inr ⟨_, rfl, run_getMap M hb⟩) hr h
      · exact (runM_fail h).elim
    · exact (runM_fail h).elim
  · exact (runM_fail h).elim

theorem setNth_eq {α : Type} (f : α → α) : ∀ (l : List α) (i : Nat), setNth l i f = l.modify i f
  | [], i => by simp [setNth]
  | x :: l, 0 => rfl
  | x :: l, i + 1 => by simp [setNth, setNth_eq f l i]

theorem run_setMap {r : Nat} {o : Obj} {es : Array MapEntry} {c : Nat} (h : w.heap[r]? = some (.map es c)) : (setObj r o).run P w = .ok () (setB w r o) := by
  simp [setObj, Sem.run, h, setB]

theorem evMapUpdate_ok (hT : TabOk P tb) (M : MemR P w0 D μ S.hp w) (F : Fresh B D S.nx out.2.nx) {T : TypeId} {x y z : AV} {a b c : Value} (hx : AVr D μ x a) (hy : AVr D μ y b) (hz : AVr D μ z c) (h : runM (evMapUpdate tb T x y z K) S = some out) :
    AfterU P w0 out B D μ K (Instr.mapUpdate T a b c) w := by
  unfold evMapUpdate at h
  split at h
  rotate_left
  · exact (runM_fail h).elim
  rename_i j k q n v hkt
  obtain ⟨kt, e, kd, hu, hk, hj⟩ := keyTy_spec hT hkt
  obtain ⟨rfl, _⟩ := hx
  obtain ⟨rfl, _⟩ := hy
  obtain ⟨rfl, hv⟩ := hz
  obtain ⟨b0, lg2, hb, h⟩ := runM_rd h
  split at h
  rotate_left
  · exact (runM_fail h).elim
  rename_i es clock
  have hes := (M.ok k _ hb).1
  have hobj := (M.ok k _ hb).2
  have hg := run_getMap M hb
  have hlt := M.lt k _ hb
  split at h
  · rename_i i v0 hf
    obtain ⟨g1, g2⟩ := findI_spec (μ := μ) (kd := kd) hf
    obtain ⟨_, bb, hbb⟩ := g2 _ rfl
    simp only [Nat.sub_zero] at hbb
    obtain ⟨_, hp', lg3, _, hgp, h⟩ := runM_wr h
    have hnew : ∀ e ∈ setNth es i (fun e => (e.1, v, e.2.2)), e.1.ok D ∧ e.2.1.ok D := by
      intro e he
      rw [setNth_eq] at he
      obtain ⟨jj, hjj⟩ := List.mem_iff_getElem?.1 he
      rw [List.getElem?_modify] at hjj
      cases h0 : es[jj]? with
      | none => simp [h0] at hjj
      | some e0 =>
        have := hes e0 (List.mem_of_getElem? h0)
        rw [h0] at hjj
        by_cases hij : i = jj
        · simp [hij] at hjj; subst hjj; exact ⟨this.1, hv⟩
        · simp [hij] at hjj; subst hjj; exact this
    have hwo : HoldsB P D μ (setB w (μ k).1 (.map ((setNth es i fun e => (e.1, v, e.2.2)).map (ent μ)).toArray clock)) (μ k) (.mp (setNth es i fun e => (e.1, v, e.2.2)) clock) := ⟨hnew, setB_get_same hlt⟩
    refine ⟨.un, _, D, μ, undef, _, ?_, h, M.write hb rfl hgp hwo, Sees.refl _ _, AVr_un, F⟩
    have hkey : (((es.map (ent μ)).toArray[i]?).map (·.key)).getD (.int q n) = .int q n := by
      simp only [List.getElem?_toArray, List.getElem?_map, hbb]
      rfl
    have hstay : (Instr.keyThatStays (.int q n) (.int q n)).run P w = .ok (.int q n) w := by
      simp [Instr.keyThatStays, Instr.sameBits]
    have hes2 : ((es.map (ent μ)).toArray.modify i fun e => { e with key := .int q n, val := v.val μ }) = ((setNth es i fun e => (e.1, v, e.2.2)).map (ent μ)).toArray := by
      apply Array.ext_getElem?
      intro jj
      rw [setNth_eq, Array.getElem?_modify]
      simp only [List.getElem?_toArray, List.getElem?_map, List.getElem?_modify]
      by_cases hij : i = jj
      · subst hij
        simp [hbb, ent, GV.val, Sc.val]
      · simp [hij]
    show ((do Instr.mapUpdate T (.map (some (μ k).1)) (.int q n) (v.val μ); pure undef : Sem Value).run P w) = _
    simp only [Instr.mapUpdate, Sem.run_bind, run_underlying hu, Result.andThen_ok]
    have hg' := hg
    rw [hg']
    simp only [Result.andThen_ok, Sem.run_bind, run_checkKey hk, run_findKey (P := P) hk g1, Option.map_some]
    rw [hkey]
    simp only [hstay, Result.andThen_ok]
    have hsm := run_setMap (P := P) (o := .map ((es.map (ent μ)).toArray.modify i fun e => { e with key := .int q n, val := v.val μ }) clock) hobj
    rw [show (setObj (μ k).1 (.map ((es.map (ent μ)).toArray.modify i fun e => { e with key := .int q n, val := v.val μ }) clock)).run P w = _ from hsm, hes2]
    simp
  · rename_i hf
    obtain ⟨g1, g2⟩ := findI_spec (μ := μ) (kd := kd) hf
    rw [forceN_eq] at h
    obtain ⟨_, hp', lg3, _, hgp, h⟩ := runM_wr h
    have hnew : ∀ e ∈ es ++ [(GV.s (Sc.v (.int q n)), v, clock)], e.1.ok D ∧ e.2.1.ok D := by
      intro e he
      rcases List.mem_append.1 he with he | he
      · exact hes e he
      · simp at he; subst he; exact ⟨rfl, hv⟩
    have hwo : HoldsB P D μ (setB w (μ k).1 (.map ((es ++ [(GV.s (Sc.v (.int q n)), v, clock)]).map (ent μ)).toArray (clock + 1))) (μ k) (.mp (es ++ [(GV.s (Sc.v (.int q n)), v, clock)]) (clock + 1)) := ⟨hnew, setB_get_same hlt⟩
    refine ⟨.un, _, D, μ, undef, _, ?_, h, M.write hb rfl hgp hwo, Sees.refl _ _, AVr_un, F⟩
    have hes2 : ((es.map (ent μ)).toArray.push ⟨.int q n, v.val μ, clock⟩) = ((es ++ [(GV.s (Sc.v (.int q n)), v, clock)]).map (ent μ)).toArray := by
      simp [ent, GV.val, Sc.val]
    show ((do Instr.mapUpdate T (.map (some (μ k).1)) (.int q n) (v.val μ); pure undef : Sem Value).run P w) = _
    simp only [Instr.mapUpdate, Sem.run_bind, run_underlying hu, Result.andThen_ok]
    rw [hg]
    simp only [Result.andThen_ok, Sem.run_bind, run_checkKey hk, run_findKey (P := P) hk g1, Option.map_none]
    have hsm := run_setMap (P := P) (o := .map ((es.map (ent μ)).toArray.push ⟨.int q n, v.val μ, clock⟩) (clock + 1)) hobj
    rw [show (setObj (μ k).1 (.map ((es.map (ent μ)).toArray.push ⟨.int q n, v.val μ, clock⟩) (clock + 1))).run P w = _ from hsm, hes2]
    simp
  · exact (runM_fail h).elim
end
end Go.Rn

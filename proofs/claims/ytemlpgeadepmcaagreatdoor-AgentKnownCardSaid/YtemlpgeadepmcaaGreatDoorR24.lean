/-
  A part of a proved evaluator for closed runs. No conditions.
-/
import Derived.Test.YtemlpgeadepmcaaGreatDoorR23
namespace Go.Rn
open Go Go.RowKit
set_option linter.unusedVariables false
set_option linter.unusedSimpArgs false

section
variable {P : Program} {tb : Tab} {w0 w w' : World} {B D D' : Nm} {μ μ' : Mu} {S : St} {out : Out × St} {G : Machine → Prop}
variable {b : Frame} {a : Act} {k : List Item} {cs : List Frame} {nt : Nat} {tm : Tr AV} {call : CallF}

/-- Temporaries set one by one; they hold what they are set to. -/
theorem putAll_rel : ∀ (ts : List Tmp) (vs : List AV) (tm : Tr AV) (K : Tr AV → M), runM (putAll ts vs nt tm K) S = some out → ∀ arr : Array Value, (∀ (p : Nat) (t : Tmp) (x : AV), ts[p]? = some t → vs[p]? = some x → AVr D μ x (arr.getD t undef)) → TmR D μ tm arr →
    ts.length = vs.length ∧ (∀ t ∈ ts, t < nt) ∧ ∃ tm', runM (K tm') S = some out ∧ TmR D μ tm' arr
  | [], [], tm, K, h, arr, _, ht => ⟨rfl, fun t ht => (by cases ht), tm, h, ht⟩
  | [], _ :: _, tm, K, h, _, _, _ => (runM_fail h).elim
  | _ :: _, [], tm, K, h, _, _, _ => (runM_fail h).elim
  | t :: ts, v :: vs, tm, K, h, arr, hr, ht => by
    simp only [putAll] at h
    obtain ⟨tm1, e1, e2, e3⟩ := putK_spec h
    have h0 := hr 0 t v (by simp) (by simp)
    have ht1 : TmR D μ tm1 arr := by
      intro u x hx
      rw [e2] at hx
      by_cases hu : t = u
      · subst hu; simp at hx; subst hx; exact h0
      · have : ¬ some t = some u := fun e => hu (by injection e)
        rw [if_neg this] at hx; exact ht u x hx
    obtain ⟨g1, g2, tm2, g3, g4⟩ := putAll_rel ts vs tm1 K e1 arr (fun p u x hp hx => hr (p + 1) u x (by simpa using hp) (by simpa using hx)) ht1
    exact ⟨by simp [g1], fun u hu => by rcases List.mem_cons.1 hu with rfl | hu; exact e3 _ rfl; exact g2 u hu, tm2, g3, g4⟩

/-- Temporaries set one by one, here and there. -/
theorem putAll_set : ∀ (ts : List Tmp) (vs : List AV) (vals : List Value) (tm : Tr AV) (K : Tr AV → M), runM (putAll ts vs nt tm K) S = some out → AVL D μ vs vals → ∀ arr : Array Value, arr.size = nt → TmR D μ tm arr →
    ts.length = vals.length ∧ ∃ tm', runM (K tm') S = some out ∧ FrR nt D μ tm' { tmps := (ts.zip vals).foldl (fun tmps p => tmps.setIfInBounds p.1 p.2) arr, defers := [] }
  | [], [], [], tm, K, h, _, arr, hs, ht => ⟨rfl, tm, h, hs, ht⟩
  | [], _ :: _, _, tm, K, h, _, _, _, _ => (runM_fail h).elim
  | _ :: _, [], _, tm, K, h, _, _, _, _ => (runM_fail h).elim
  | t :: ts, x :: l, v :: m, tm, K, h, .cons hx hl, arr, hs, ht => by
    simp only [putAll] at h
    obtain ⟨tm1, e1, e2, e3⟩ := putK_spec h
    have hput := FrR.put (nt := nt) (tm := tm) (a := { tmps := arr, defers := [] }) ⟨hs, ht⟩ (d := some t) hx e2 e3
    obtain ⟨g1, tm2, g2, g3⟩ := putAll_set ts l m tm1 K e1 hl (arr.setIfInBounds t v) (by simp [hs]) hput.tm
    exact ⟨by simp [g1], tm2, g2, by simpa using g3⟩

theorem leave_ok (hB : Back P G) : ∀ (df : List Nat) (m : M) (S : St) (w : World) (fr : Frame), fr.mode = .returning → DfR D μ df fr.defers → runM (leaveM df m) S = some out → MemR P w0 D μ S.hp w → Fresh B D S.nx out.2.nx →
    (∀ S' w', runM m S' = some out → MemR P w0 D μ S'.hp w' → Fresh B D S'.nx out.2.nx → G (lone { fr with defers := [] } cs w')) → G (lone fr cs w)
  | [], m, S, w, fr, hm, hd, h, M, F, hK => by
    have := hK S w h M F
    have hd0 : fr.defers = [] := hd.1
    have he : ({ fr with defers := [] } : Frame) = fr := by
      cases fr; simp only at hd0; subst hd0; rfl
    rw [he] at this; exact this
  | r :: df, m, S, w, fr, hm, hd, h, M, F, hK => by
    simp only [leaveM] at h
    obtain ⟨b0, lg1, hr, h⟩ := runM_rd h
    split at h
    rotate_left
    · exact (runM_fail h).elim
    obtain ⟨b1, hp', lg2, _, hg, h⟩ := runM_wr h
    have hobj : w.heap[(μ r).1]? = some (.deferred (some [])) := M.ok r _ hr
    have hdd := hd.1
    rw [List.map_cons] at hdd
    have htake : (Instr.takeDeferred (μ r).1).run P w = .ok [] (setB w (μ r).1 (.deferred none)) := by
      simp [Instr.takeDeferred, getObj, setObj, Sem.run, hobj, setB]
    refine hB _ _ (step_collected (by rw [hm]; simp) hdd rfl htake) ?_
    have M' : MemR P w0 D μ hp' (setB w (μ r).1 (.deferred none)) := M.write hr rfl hg (b' := .df false) (setB_get_same (M.lt r _ hr))
    refine leave_ok hB df m _ _ { fr with defers := [] ++ df.map fun r => { target := .collected (μ r).1, args := #[] } } hm ⟨by simp, fun r hr => hd.2 r (by simp [hr])⟩ h M' F ?_
    intro S' w' q1 q2 q3
    exact hK S' w' q1 q2 q3

theorem resM_spec (hT : TabOk P tb) (M : MemR P w0 D μ S.hp w) (R : TmR D μ tm a.tmps) {f : ResultVar → Sem Value} (h1 : ∀ t, f (.tmp t) = pure (a.tmps.getD t undef))
    (h2 : ∀ x t, f (.cell x t) = do loadVar t (← asAddr (a.tmps.getD x undef))) : ∀ (l : List ResultVar) (K : List GV → Rn.M) (lg : Tr Bool), runM (resM tb tm l K) ⟨S.hp, S.nx, S.fl, lg⟩ = some out →
    ∃ xs lg', runM (K xs) ⟨S.hp, S.nx, S.fl, lg'⟩ = some out ∧ (∀ x ∈ xs, x.ok D) ∧ (l.mapM f).run P w = .ok (xs.map (GV.val μ)) w
  | [], K, lg, h => ⟨[], lg, h, fun x hx => (by cases hx), by simp⟩
  | .tmp t :: r, K, lg, h => by
    simp only [resM] at h
    split at h
    · rename_i x hx
      obtain ⟨xs, lg', g1, g2, g3⟩ := resM_spec hT M R h1 h2 r _ lg h
      have hv := R t _ hx
      refine ⟨x :: xs, lg', g1, fun y hy => by rcases List.mem_cons.1 hy with rfl | hy; exact hv.2; exact g2 y hy, ?_⟩
      rw [List.mapM_cons, h1]
      simp only [Sem.run_bind, Sem.run_pure, Result.andThen_ok, g3, hv.1, List.map_cons]
    · exact (runM_fail h).elim
  | .cell t T :: r, K, lg, h => by
    simp only [resM] at h
    split at h
    · rename_i k off i hx hi
      have hv := R t _ hx
      obtain ⟨b0, lg1, hb, h⟩ := runM_rd h
      split at h
      · rename_i ty tr op
        obtain ⟨hl, htok⟩ := Blk.lies M hb (.inl ⟨_, _, rfl⟩)
        rcases ldT_spec (bad := Rn.M.fail) (μ := μ) (hT.ty T i hi) htok (off := off) hl (fun x => resM tb tm r fun l => K (x :: l)) with e | ⟨x, e1, e2, e3⟩
        · rw [e] at h; exact (runM_fail h).elim
        · rw [e1] at h
          obtain ⟨xs, lg', g1, g2, g3⟩ := resM_spec hT M R h1 h2 r _ lg1 h
          refine ⟨x :: xs, lg', g1, fun y hy => by rcases List.mem_cons.1 hy with rfl | hy; exact e2; exact g2 y hy, ?_⟩
          have hav : a.tmps.getD t undef = .pointer (some (at_ μ k off)) := hv.1
          have ha : (asAddr (a.tmps.getD t undef)).run P w = .ok ⟨(μ k).1, (μ k).2.1 + off, none⟩ w := by rw [hav]; rfl
          rw [List.mapM_cons, h2]
          simp only [Sem.run_bind, ha, Sem.run_pure, Result.andThen_ok, e3, g3, List.map_cons]
      · exact (runM_fail h).elim
    · exact (runM_fail h).elim

def resF (tmps : Array Value) : ResultVar → Sem Value
  | .tmp t => pure (tmps.getD t undef)
  | .cell a t => do loadVar t (← asAddr (tmps.getD a undef))

theorem results_eq (fn : Func) (tmps : Array Value) : results fn tmps = (do let vs ← fn.results.mapM (resF tmps); pure (if h : vs.size = 1 then vs[0] else .tuple vs)) := by
  unfold results
  congr 2

theorem results_ok (hT : TabOk P tb) (M : MemR P w0 D μ S.hp w) (R : TmR D μ tm a.tmps) {fn : Func} {K : AV → Rn.M} {lg : Tr Bool} (h : runM (resM tb tm fn.results.toList fun l => K (resAV l)) ⟨S.hp, S.nx, S.fl, lg⟩ = some out) :
    ∃ v v' lg', runM (K v) ⟨S.hp, S.nx, S.fl, lg'⟩ = some out ∧ AVr D μ v v' ∧ (results fn a.tmps).run P w = .ok v' w := by
  obtain ⟨xs, lg', g1, g2, g3⟩ := resM_spec hT M R (f := resF a.tmps) (fun t => rfl) (fun x t => rfl) _ _ lg h
  have hrun : (results fn a.tmps).run P w = .ok (if h : ((xs.map (GV.val μ)).toArray).size = 1 then ((xs.map (GV.val μ)).toArray)[0] else .tuple (xs.map (GV.val μ)).toArray) w := by
    rw [results_eq, Array.mapM_eq_mapM_toList]
    simp only [Sem.run_bind, Sem.run_map]
    rw [g3]
    simp only [Result.andThen_ok, Sem.run_pure]
  match xs, g1, g2, hrun with
  | [x], g1, g2, hrun => exact ⟨.g x, x.val μ, lg', g1, ⟨rfl, g2 x (by simp)⟩, by rw [hrun]; simp⟩
  | [], g1, g2, hrun => exact ⟨.tu [], .tuple #[], lg', g1, ⟨rfl, fun x hx => by cases hx⟩, by rw [hrun]; simp⟩
  | x :: y :: l, g1, g2, hrun => exact ⟨.tu (x :: y :: l), .tuple ((x :: y :: l).map (GV.val μ)).toArray, lg', g1, ⟨rfl, g2⟩, by rw [hrun]; simp⟩
end
end Go.Rn

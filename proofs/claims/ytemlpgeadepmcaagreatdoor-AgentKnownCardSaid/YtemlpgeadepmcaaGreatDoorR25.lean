/-
  A part of a proved evaluator for closed runs. No conditions.
-/
import Derived.Test.YtemlpgeadepmcaaGreatDoorR24
namespace Go.Rn
open Go Go.RowKit
set_option linter.unusedVariables false
set_option linter.unusedSimpArgs false

section
variable {P : Program} {tb : Tab} {w0 : World}

/-- A round of a loop over a function. -/
theorem round_ok (hT : TabOk P tb) {call : CallF} (hev : ∀ fid nt ro c, CodeOk P tb w0 fid nt ro c (ev P tb call fid nt ro c)) {l : Nat} {args : List AV} {K : AV → M} {S : St} {out : Out × St}
    (h : runM (roundM P tb call l args K) S = some out) {B D : Nm} {μ : Mu} {w : World} (M : MemR P w0 D μ S.hp w) (F : Fresh B D S.nx out.2.nx) (hg : GlobR tb D μ) {vs : List Value} (hvs : AVL D μ args vs) {G : Machine → Prop} (hB : Back P G) {c : Frame} {cs : List Frame}
    (hK : ∀ v S' D' μ' v' w', runM (K v) S' = some out → MemR P w0 D' μ' S'.hp w' → Sees D D' μ μ' → AVr D' μ' v v' → Fresh B D' S'.nx out.2.nx → G (lone (c.finish v') cs w')) : TgtG P G μ (.y l) vs c cs w := by
  unfold roundM at h
  obtain ⟨b0, lg1, hl, h⟩ := runM_rd h
  split at h
  rotate_left
  · exact (runM_fail h).elim
  rename_i r
  obtain ⟨tmps, e1, e2, e3, e4⟩ := M.loop hl
  obtain ⟨hlen, tm', h, hfr⟩ := putAll_set r.ps.toList args vs r.tm _ h hvs tmps e2 e3
  have hgl := run_getLoop (P := P) e1
  refine ⟨r.fn, (r.ps.toList.zip vs).foldl (fun tmps p => tmps.setIfInBounds p.1 p.2) tmps, r.asg, r.body, ?_, ?_⟩
  · simp only [Instr.yield, Sem.run_bind, hgl, Result.andThen_ok, LoopR.obj]
    have hsz : ¬ (vs.toArray.size ≠ r.ps.size) := by
      simp only [List.size_toArray, ne_eq, Decidable.not_not, ← hlen, Array.length_toList]
    rw [if_neg hsz]
    simp only [Sem.run_bind, Sem.run_pure, Result.andThen_ok]
    congr 2
    rw [← Array.foldl_toList, Array.toList_zip]
  · let b : Frame := { (default : Frame) with fn := r.fn, kind := .normal, roundOf := some (μ l).1 }
    have hround : Frame.round (μ l).1 r.fn ((r.ps.toList.zip vs).foldl (fun tmps p => tmps.setIfInBounds p.1 p.2) tmps) r.asg r.body .normal =
        b.atR { tmps := (r.ps.toList.zip vs).foldl (fun tmps p => tmps.setIfInBounds p.1 p.2) tmps, defers := [] } [.code r.asg, .beginRound, .code r.body] := by
      simp [Frame.round, Frame.atR, b]
    rw [hround]
    have hro : RoR D μ (some l) b := ⟨rfl, fun l' hl' => by injection hl' with hl'; subst hl'; exact M.nm _ _ hl⟩
    refine hev r.fn r.nt (some l) r.asg tm' [] _ _ out h B D μ _ w M F hg hfr ⟨rfl, fun r hr => by cases hr⟩ G hB b [.beginRound, .code r.body] (c :: cs) rfl hro ?_
    intro e tm1 df1 S1 D1 μ1 a1 w1 q1 q2 q3 q4 q5 q6
    cases e with
    | ret => exact (runM_fail q1).elim
    | out id => exact (runM_fail q1).elim
    | norm =>
      cases df1 with
      | cons _ _ => exact (runM_fail q1).elim
      | nil =>
      simp only at q1
      obtain ⟨b1, lg2, hl1, q1⟩ := runM_rd q1
      split at q1
      rotate_left
      · exact (runM_fail q1).elim
      rename_i r1
      split at q1
      rotate_left
      · exact (runM_fail q1).elim
      rename_i hst
      obtain ⟨_, hp', lg3, _, hgp, q1⟩ := runM_wr q1
      obtain ⟨tmps1, f1, f2, f3, f4⟩ := q2.loop hl1
      have M2 := q2.setLoop hl1 f1 f2 f3 f4 (r' := { r1 with st := .busy }) ⟨rfl, rfl, rfl, rfl, rfl, rfl, rfl⟩ hgp
      have hμ : (μ1 l).1 = (μ l).1 := by rw [(q3 l (M.nm _ _ hl)).2]
      have hbr : b.roundOf = some (μ1 l).1 := by rw [hμ]
      have hbeg : (Instr.beginRound (μ1 l).1).run P w1 = .ok () (setB w1 (μ1 l).1 (({ r1 with st := .busy } : LoopR).obj μ1 tmps1)) := by
        have hg1 := run_getLoop (P := P) f1
        have hs1 := run_setLoop (P := P) (o := ({ r1 with st := .busy } : LoopR).obj μ1 tmps1) f1
        simp only [Instr.beginRound, Sem.run_bind, hg1, Result.andThen_ok]
        have : (setObj (μ1 l).1 (.loop { state := .busy, pending := r1.pend, fn := r1.fn, tmps := tmps1, params := r1.ps, assign := r1.asg, body := r1.body, defers := (μ1 r1.df).1 })).run P w1 = .ok () (setB w1 (μ1 l).1 (({ r1 with st := .busy } : LoopR).obj μ1 tmps1)) := hs1
        rw [this]
        simp only [Result.andThen_ok, hst]
        rfl
      refine hB _ _ (stepR_beginRound hbr hbeg) ?_
      have hgb : setB w1 (μ1 l).1 (({ r1 with st := .busy } : LoopR).obj μ1 tmps1) = setB w1 (μ1 l).1 (({ r1 with st := .busy } : LoopR).obj μ1 tmps1) := rfl
      have hro1 : RoR D1 μ1 (some l) b := hro.sees q3
      refine hev r.fn r.nt (some l) r.body tm1 [] _ _ out q1 B D1 μ1 a1 _ M2 q6 (hg.sees q3) q4 q5 G hB b [] (c :: cs) rfl hro1 ?_
      intro e2 tm2 df2 S2 D2 μ2 a2 w2 p1 p2 p3 p4 p5 p6
      unfold endRoundM at p1
      obtain ⟨b2, lg4, hl2, p1⟩ := runM_rd p1
      split at p1
      rotate_left
      · exact (runM_fail p1).elim
      rename_i r2
      obtain ⟨tmps2, d1, d2, d3, d4⟩ := p2.loop hl2
      have hs12 := q3.trans p3
      have hμ2 : (μ2 l).1 = (μ l).1 := by rw [(hs12 l (M.nm _ _ hl)).2]
      have hbr2 : b.roundOf = some (μ2 l).1 := by rw [hμ2]
      have hend : ∀ (jump : Option Code), (Instr.endRound (μ2 l).1 jump).run P w2 = .ok (.bool jump.isNone) (setB w2 (μ2 l).1 (({ r2 with st := if jump.isNone then .ready else .done, pend := jump } : LoopR).obj μ2 tmps2)) := by
        intro jump
        have hg2 := run_getLoop (P := P) d1
        have hs2 := run_setLoop (P := P) (o := ({ r2 with st := if jump.isNone then .ready else .done, pend := jump } : LoopR).obj μ2 tmps2) d1
        simp only [Instr.endRound, Sem.run_bind, hg2, Result.andThen_ok]
        have : (setObj (μ2 l).1 (.loop { state := if jump.isNone then .ready else .done, pending := jump, fn := r2.fn, tmps := tmps2, params := r2.ps, assign := r2.asg, body := r2.body, defers := (μ2 r2.df).1 })).run P w2 = .ok () (setB w2 (μ2 l).1 (({ r2 with st := if jump.isNone then .ready else .done, pend := jump } : LoopR).obj μ2 tmps2)) := hs2
        simp only [LoopR.obj] at this ⊢
        rw [this]
        rfl
      cases e2 with
      | norm =>
        obtain ⟨_, hp2, lg5, _, hgp2, p1⟩ := runM_wr p1
        exact hB _ _ (stepR_round_end hbr2 rfl (hend none)) (hK (.b true) _ D2 μ2 (.bool true) _ p1 (p2.setLoop (r' := { r2 with st := .ready, pend := none }) hl2 d1 d2 d3 d4 ⟨rfl, rfl, rfl, rfl, rfl, rfl, rfl⟩ hgp2) hs12 ⟨rfl, rfl⟩ p6)
      | ret =>
        obtain ⟨_, hp2, lg5, _, hgp2, p1⟩ := runM_wr p1
        exact fun k1 => hB _ _ (stepR_round_ret hbr2 rfl (hend (some .ret))) (hK (.b false) _ D2 μ2 (.bool false) _ p1 (p2.setLoop (r' := { r2 with st := .done, pend := some .ret }) hl2 d1 d2 d3 d4 ⟨rfl, rfl, rfl, rfl, rfl, rfl, rfl⟩ hgp2) hs12 ⟨rfl, rfl⟩ p6)
      | out id =>
        obtain ⟨_, hp2, lg5, _, hgp2, p1⟩ := runM_wr p1
        exact fun k1 hk1 => hB _ _ (stepR_round_exit hbr2 rfl (by rw [hk1]; rfl) (hend (some (.exit id)))) (hK (.b false) _ D2 μ2 (.bool false) _ p1 (p2.setLoop (r' := { r2 with st := .done, pend := some (.exit id) }) hl2 d1 d2 d3 d4 ⟨rfl, rfl, rfl, rfl, rfl, rfl, rfl⟩ hgp2) hs12 ⟨rfl, rfl⟩ p6)

theorem AVL.get {D : Nm} {μ : Mu} {l : List AV} {vs : List Value} (h : AVL D μ l vs) : ∀ (p : Nat) {x : AV}, l[p]? = some x → ∃ v, vs[p]? = some v ∧ AVr D μ x v := by
  induction h with
  | nil => intro p x hx; simp at hx
  | cons h0 _ ih =>
    intro p x hx
    cases p with
    | zero => simp at hx; subst hx; exact ⟨_, rfl, h0⟩
    | succ p => simp at hx; simpa using ih p hx

theorem fn_ok (hm : P.follows .mixedOrders = true) (hT : TabOk P tb) (h1 : ∀ t i, tb.ty t = some i → i.agg = false → i.sz = 1) {n : Nat} (hC : CallOk P tb w0 (callN P tb n)) {f : FuncId} {args : List AV} {K : AV → M} {S : St} {out : Out × St}
    (h : runM (callN P tb (n + 1) (.fn f) args K) S = some out) {B D : Nm} {μ : Mu} {w : World} (M : MemR P w0 D μ S.hp w) (F : Fresh B D S.nx out.2.nx) (hg : GlobR tb D μ) {vs : List Value} (hvs : AVL D μ args vs) {G : Machine → Prop} (hB : Back P G) {cs : List Frame}
    (hK : ∀ v S' D' μ' v' w' fr, runM (K v) S' = some out → MemR P w0 D' μ' S'.hp w' → Sees D D' μ μ' → AVr D' μ' v v' → Fresh B D' S'.nx out.2.nx → fr.fn = f → fr.leaving P w' (.returned v') → G (lone fr cs w')) :
    (callFunc f vs.toArray).run P w = .ok (.enter f vs.toArray) w ∧ G (lone (Frame.enter P f vs.toArray .normal) cs w) := by
  have hev : ∀ fid nt ro c, CodeOk P tb w0 fid nt ro c (ev P tb (callN P tb n) fid nt ro c) := fun fid nt ro c => ev_ok hm hT h1 hC c
  simp only [callN] at h
  split at h
  rotate_left
  · exact (runM_fail h).elim
  rename_i fn hfn
  obtain ⟨hf, _, hcall⟩ := hT.fn f fn hfn
  split at h
  rotate_left
  · exact (runM_fail h).elim
  rename_i cd hbody
  have hvl := hvs.length
  let arr : Array Value := vs.toArray ++ Array.replicate (fn.ntmps - vs.toArray.size) undef
  have hrel : ∀ (p : Nat) (t : Tmp) (x : AV), (List.range args.length)[p]? = some t → args[p]? = some x → AVr D μ x (arr.getD t undef) := by
    intro p t x hp hx
    have hpl : p < args.length := (List.getElem?_eq_some_iff.1 hx).1
    rw [List.getElem?_range hpl] at hp
    injection hp with hp; subst hp
    have hvp : ∃ v, vs[p]? = some v ∧ AVr D μ x v := hvs.get p hx
    obtain ⟨v, hv1, hv2⟩ := hvp
    have : arr.getD p undef = v := by
      have hpl2 : p < vs.length := by omega
      rw [Array.getD_eq_getD_getElem?]
      simp only [arr]
      rw [Array.getElem?_append_left (by simpa using hpl2)]
      simp [hv1]
    rw [this]; exact hv2
  obtain ⟨g1, g2, tm', h, g4⟩ := putAll_rel (List.range args.length) args .nl _ h arr hrel (fun t x hx => by simp [Tr.get_nl] at hx)
  have hsz : arr.size = fn.ntmps := by
    simp only [arr, Array.size_append, Array.size_replicate]
    have hz : vs.toArray.size = args.length := by rw [List.size_toArray]; exact hvl.symm
    have hle : args.length ≤ fn.ntmps := by
      rcases Nat.eq_zero_or_pos args.length with h0 | h0
      · rw [h0]; exact Nat.zero_le _
      · have := g2 (args.length - 1) (List.mem_range.2 (Nat.sub_lt h0 Nat.one_pos))
        show args.length ≤ fn.ntmps
        have : args.length - 1 < fn.ntmps := this
        omega
    omega
  refine ⟨hcall _ _, ?_⟩
  let b : Frame := { (default : Frame) with fn := f, kind := .normal, roundOf := none }
  have henter : Frame.enter P f vs.toArray .normal = b.atR { tmps := arr, defers := [] } [.code cd] := by
    simp [Frame.enter, Frame.atR, hf, hbody, b, arr]
  rw [henter]
  have hro : RoR D μ none b := ⟨rfl, fun l hl => by cases hl⟩
  refine hev f fn.ntmps none cd tm' [] _ _ out h B D μ _ w M F hg ⟨hsz, g4⟩ ⟨rfl, fun r hr => by cases hr⟩ G hB b [] cs rfl hro ?_
  intro e tm1 df1 S1 D1 μ1 a1 w1 q1 q2 q3 q4 q5 q6
  have fin : ∀ todo, runM (leaveM df1 (resM tb tm1 fn.results.toList fun l => K (resAV l))) S1 = some out → G (lone { b.atR a1 todo with mode := .returning } cs w1) := by
    intro todo h
    refine leave_ok hB df1 _ S1 w1 _ rfl q5 h q2 q6 ?_
    intro S2 w2 r1 r2 r3
    obtain ⟨v, v', lg', e1, e2, e3⟩ := results_ok (S := S2) (lg := S2.lg) hT r2 q4.tm r1
    have hleave : ({ b.atR a1 todo with mode := .returning, defers := [] } : Frame).leaving P w2 (.returned v') := ⟨rfl, rfl, rfl, fn, hf, e3⟩
    exact hK v _ D1 μ1 v' w2 _ e1 r2 q3 e2 r3 rfl hleave
  cases e with
  | norm => exact hB _ _ (stepR_end rfl) (fin _ q1)
  | ret => exact fun k1 => hB _ _ (stepR_ret rfl) (fin _ q1)
  | out id => exact (runM_fail q1).elim

theorem callN_ok (hm : P.follows .mixedOrders = true) (hT : TabOk P tb) (h1 : ∀ t i, tb.ty t = some i → i.agg = false → i.sz = 1) : ∀ n, CallOk P tb w0 (callN P tb n)
  | 0 => fun t args K S out h => (runM_fail h).elim
  | n + 1 => by
    intro t args K S out h B D μ w M F hg ht vs hvs G hB c cs hK
    cases t with
    | y l => exact round_ok hT (fun fid nt ro c => ev_ok hm hT h1 (callN_ok hm hT h1 n) c) h M F hg hvs hB hK
    | fn f =>
      exact fn_ok hm hT h1 (callN_ok hm hT h1 n) h M F hg hvs hB fun v S' D' μ' v' w' fr a1 a2 a3 a4 a5 _ a6 => hB _ _ (step_leave_returned a6) (hK v S' D' μ' v' w' a1 a2 a3 a4 a5)
end
end Go.Rn

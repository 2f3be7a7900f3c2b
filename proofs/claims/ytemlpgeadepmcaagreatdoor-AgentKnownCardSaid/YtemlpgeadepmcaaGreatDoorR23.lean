/-
  A part of a proved evaluator for closed runs. No conditions.
-/
import Derived.Test.YtemlpgeadepmcaaGreatDoorR22
namespace Go.Rn
open Go Go.RowKit
set_option linter.unusedVariables false
set_option linter.unusedSimpArgs false

section
variable {P : Program} {tb : Tab} {w0 w w' : World} {B D D' : Nm} {μ μ' : Mu} {S : St} {out : Out × St} {G : Machine → Prop}
variable {b : Frame} {a : Act} {k : List Item} {cs : List Frame} {nt : Nat} {tm : Tr AV} {call : CallF}

theorem endLoop_ok (hB : Back P G) {l : Nat} {df : List Nat} {K : Ex → Tr AV → List Nat → M} (h : runM (endLoopM l tm df K) S = some out) (M : MemR P w0 D μ S.hp w) (F : Fresh B D S.nx out.2.nx) (R : FrR nt D μ tm a) (hd : DfR D μ df a.defers)
    (hK : ∀ e S' w', runM (K e tm df) S' = some out → MemR P w0 D μ S'.hp w' → Fresh B D S'.nx out.2.nx → EndM G b k cs a w' e) : G (lone (b.atR a (.endRangeFunc (μ l).1 :: k)) cs w) := by
  unfold endLoopM at h
  obtain ⟨b0, lg1, hl, h⟩ := runM_rd h
  split at h
  rotate_left
  · exact (runM_fail h).elim
  rename_i r
  obtain ⟨tmps, e1, e2, e3, e4⟩ := M.loop hl
  have key : r.st ≠ .busy → ∀ {m : Rn.M}, runM (.wr l (some (.lp { r with st := .exhausted })) m) ⟨S.hp, S.nx, S.fl, lg1⟩ = some out → ∃ S' w', runM m S' = some out ∧ MemR P w0 D μ S'.hp w' ∧ Fresh B D S'.nx out.2.nx ∧ (Instr.endLoop (μ l).1).run P w = .ok r.pend w' := by
    intro hb m h
    obtain ⟨b1, hp', lg2, _, hg, h⟩ := runM_wr h
    refine ⟨_, _, h, M.setLoop hl e1 e2 e3 e4 (r' := { r with st := .exhausted }) ⟨rfl, rfl, rfl, rfl, rfl, rfl, rfl⟩ hg, F, ?_⟩
    have hgl := run_getLoop (P := P) e1
    have hsl := run_setLoop (P := P) (o := ({ r with st := .exhausted } : LoopR).obj μ tmps) e1
    have hbq : (r.st == LoopState.busy) = false := by simpa using hb
    simp only [Instr.endLoop, Sem.run_bind, hgl, Result.andThen_ok, hbq, Bool.false_eq_true, if_false, Sem.run_pure]
    have : (setObj (μ l).1 (.loop { state := .exhausted, pending := r.pend, fn := r.fn, tmps := tmps, params := r.ps, assign := r.asg, body := r.body, defers := (μ r.df).1 })).run P w = .ok () (setB w (μ l).1 (({ r with st := .exhausted } : LoopR).obj μ tmps)) := hsl
    simp only [LoopR.obj] at *
    rw [this]
    rfl
  split at h
  · exact (runM_fail h).elim
  · rename_i hst
    obtain ⟨S', w', h, M', F', hrun⟩ := key (by simpa using hst) h
    refine hB _ _ (stepR_endRangeFunc hrun) ?_
    split at h
    · rename_i hp; rw [hp]; exact hK .norm S' w' h M' F'
    · rename_i hp; rw [hp]; exact hK .ret S' w' h M' F' k
    · rename_i id hp; rw [hp]; exact hK (.out id) S' w' h M' F' k rfl
    · exact (runM_fail h).elim

theorem ev_ok (hm : P.follows .mixedOrders = true) (hT : TabOk P tb) (h1 : ∀ t i, tb.ty t = some i → i.agg = false → i.sz = 1) (hC : CallOk P tb w0 call) {fid : Nat} {ro : Option Nat} :
    ∀ c : Code, CodeOk P tb w0 fid nt ro c (ev P tb call fid nt ro c) := by
  intro c
  induction c with
  | skip => intro tm df K S out h B D μ a w M F hg R hd G hB b k cs hf hr hK; exact hB _ _ stepR_skip (hK .norm tm df S D μ a w h M (Sees.refl _ _) R hd F)
  | label l => intro tm df K S out h B D μ a w M F hg R hd G hB b k cs hf hr hK; exact hB _ _ stepR_label (hK .norm tm df S D μ a w h M (Sees.refl _ _) R hd F)
  | region id ops draw =>
    intro tm df K S out h B D μ a w M F hg R hd G hB b k cs hf hr hK
    have hend : RegG P w0 out (fun tm => K .norm tm df) nt B D μ G b a.defers k cs := by
      intro tm' S' D' μ' a' w' q1 q2 q3 q4 q5 q6
      exact hK .norm tm' df S' D' μ' a' w' q1 q2 q3 q4 (by rw [q5]; exact hd.sees q3) q6
    simp only [ev] at h
    split at h
    · refine hB _ _ stepR_region ?_
      have := evOps_ok (ops := ops) (b := b) (k := k) (cs := cs) hT h1 hC hB ops.toList 0 rfl tm S a w B D μ h M F hg R hend
      simpa [List.range_eq_range'] using this
    · split at h
      · rename_i hst
        exact evDraw_ok hm hT h1 hC hB hst h M F hg R hend
      · exact (runM_fail h).elim
  | seq x y ihx ihy =>
    intro tm df K S out h B D μ a w M F hg R hd G hB b k cs hf hr hK
    simp only [ev] at h
    refine hB _ _ stepR_seq ?_
    refine ihx tm df _ S out h B D μ a w M F hg R hd G hB b (.code y :: k) cs hf hr ?_
    intro e tm' df' S' D' μ' a' w' q1 q2 q3 q4 q5 q6
    cases e with
    | norm =>
      refine ihy tm' df' K S' out q1 B D' μ' a' w' q2 q6 (hg.sees q3) q4 q5 G hB b k cs hf (hr.sees q3) ?_
      intro e2 tm2 df2 S2 D2 μ2 a2 w2 p1 p2 p3 p4 p5 p6
      exact hK e2 tm2 df2 S2 D2 μ2 a2 w2 p1 p2 (q3.trans p3) p4 p5 p6
    | ret => exact hK .ret tm' df' S' D' μ' a' w' q1 q2 q3 q4 q5 q6
    | out id => exact fun k1 hk1 => hK (.out id) tm' df' S' D' μ' a' w' q1 q2 q3 q4 q5 q6 k1 (by rw [hk1]; simp [exitTo])
  | cond cd x y ihx ihy =>
    intro tm df K S out h B D μ a w M F hg R hd G hB b k cs hf hr hK
    simp only [ev] at h
    have hu := use_spec hg R cd
    split at h
    · rename_i hc
      rw [hc] at hu
      exact hB _ _ (stepR_cond (t := true) hu.1) (ihx tm df K S out h B D μ a w M F hg R hd G hB b k cs hf hr hK)
    · rename_i hc
      rw [hc] at hu
      exact hB _ _ (stepR_cond (t := false) hu.1) (ihy tm df K S out h B D μ a w M F hg R hd G hB b k cs hf hr hK)
    · exact (runM_fail h).elim
  | block id c ih =>
    intro tm df K S out h B D μ a w M F hg R hd G hB b k cs hf hr hK
    simp only [ev] at h
    refine hB _ _ stepR_block ?_
    refine ih tm df _ S out h B D μ a w M F hg R hd G hB b (.inBlock id :: k) cs hf hr ?_
    intro e tm' df' S' D' μ' a' w' q1 q2 q3 q4 q5 q6
    cases e with
    | norm => exact hB _ _ stepR_inBlock (hK .norm tm' df' S' D' μ' a' w' q1 q2 q3 q4 q5 q6)
    | ret => exact hK .ret tm' df' S' D' μ' a' w' q1 q2 q3 q4 q5 q6
    | out i =>
      simp only at q1
      intro k1 hk1
      split at q1
      · rename_i hb
        have hb := Nat.eq_of_beq_eq_true hb
        subst hb
        exact hB _ _ (stepR_exit (by rw [hk1]; simp [exitTo])) (hK .norm tm' df' S' D' μ' a' w' q1 q2 q3 q4 q5 q6)
      · rename_i hb
        have hne : (id == i) = false := by
          rw [beq_eq_false_iff_ne]
          rintro rfl
          rw [Nat.beq_refl] at hb; cases hb
        exact hK (.out i) tm' df' S' D' μ' a' w' q1 q2 q3 q4 q5 q6 k1 (by rw [hk1]; simp [exitTo, hne])
  | loop c ih =>
    intro tm df K S out h B D μ a w M F hg R hd G hB b k cs hf hr hK
    simp only [ev] at h
    exact hB _ _ stepR_loop (loop_ok ih _ tm df K S out h B D μ a w M F hg R hd G hB b k cs hf hr hK)
  | rangeFunc f ps x y ihx ihy =>
    intro tm df K S out h B D μ a w M F hg R hd G hB b k cs hf hr hK
    simp only [ev] at h
    have hu := use_spec hg R f
    split at h
    rotate_left
    · exact (runM_fail h).elim
    rename_i fn cap hfu
    rw [hfu] at hu
    obtain ⟨hfv, hcap⟩ := hu
    have hfv : a.eval f = .func (.func fn) #[] (cap.map fun c => Value.pointer (some (at_ μ c.1 c.2))).toArray := hfv
    -- behind the block of the calls that are put off
    have key : ∀ (rd : Nat) (df1 : List Nat) (S1 : St) (D1 : Nm) (μ1 : Mu) (w1 : World) (mark : List Deferred), runM (.new (.lp ⟨.ready, none, fid, tm, nt, ps, x, y, rd⟩) fun l => call (.fn fn) (.g (.s (.y l)) :: cap.map capAV) fun _ => endLoopM l tm df1 K) S1 = some out →
        MemR P w0 D1 μ1 S1.hp w1 → Fresh B D1 S1.nx out.2.nx → Sees D D1 μ μ1 → D1 rd → DfR D1 μ1 df1 (mark ++ a.defers) →
        (Instr.enterLoop b.fn a.tmps ps x y b.roundOf).run P w = .ok (w1.heap.size, mark) (w1.alloc ((⟨.ready, none, fid, tm, nt, ps, x, y, rd⟩ : LoopR).obj μ1 a.tmps)) → G (lone (b.atR a (.code (.rangeFunc f ps x y) :: k)) cs w) := by
      intro rd df1 S1 D1 μ1 w1 mark h M1 F1 hs1 hrd hdf1 henter
      obtain ⟨hp', lg', hgp, hrun, hlt⟩ := runM_new h
      have hn := F1.here hlt
      have Sn : Sees D1 (withN D1 S1.nx) μ1 (ext μ1 S1.nx (w1.heap.size, 0, 0)) := Sees.ext hn
      have hss := hs1.trans Sn
      have M2 : MemR P w0 (withN D1 S1.nx) (ext μ1 S1.nx (w1.heap.size, 0, 0)) hp' (w1.alloc ((⟨.ready, none, fid, tm, nt, ps, x, y, rd⟩ : LoopR).obj μ1 a.tmps)) := by
        refine M1.alloc hn (b := .lp ⟨.ready, none, fid, tm, nt, ps, x, y, rd⟩) rfl hgp ⟨.inr hrd, a.tmps, ?_, R.size, R.tm.sees hss⟩
        rw [heap_alloc_new]
        simp only [LoopR.obj, (Sn rd hrd).2]
      have hargs : AVL (withN D1 S1.nx) (ext μ1 S1.nx (w1.heap.size, 0, 0)) (.g (.s (.y S1.nx)) :: cap.map capAV) (.func (.yield w1.heap.size) #[] #[] :: cap.map fun c => Value.pointer (some (at_ μ c.1 c.2))) := by
        refine .cons ⟨by simp [GV.val, Sc.val, ext_new], .inl rfl⟩ (AVL.sees hss (capAV_ok hcap))
      obtain ⟨g1, g2⟩ := hC (.fn fn) _ _ _ _ hrun B (withN D1 S1.nx) (ext μ1 S1.nx (w1.heap.size, 0, 0)) _ M2 (F1.next hlt) (hg.sees hss) trivial _ hargs G hB (b.atR { a with defers := mark ++ a.defers } (.inRangeFunc w1.heap.size :: k)) cs (by
        intro v S' D' μ' v' w' q1 q2 q3 q4 q5
        rw [finish_atR_inRangeFunc]
        have hl : (μ' S1.nx).1 = w1.heap.size := by rw [(q3 S1.nx (.inl rfl)).2, ext_new]
        rw [← hl]
        have hss' := hss.trans q3
        refine endLoop_ok hB q1 q2 q5 (R := (⟨R.size, R.tm.sees hss'⟩ : FrR nt D' μ' tm { a with defers := mark ++ a.defers })) ((hdf1.sees Sn).sees q3) ?_
        intro e S2 w2 p1 p2 p3
        exact hK e tm df1 S2 D' μ' _ w2 p1 p2 hss' ⟨R.size, R.tm.sees hss'⟩ ((hdf1.sees Sn).sees q3) p3)
      refine hB _ _ (stepR_rangeFunc henter (w₁' := w1.alloc ((⟨.ready, none, fid, tm, nt, ps, x, y, rd⟩ : LoopR).obj μ1 a.tmps)) (d := { target := .fn (.func fn) (cap.map fun c => Value.pointer (some (at_ μ c.1 c.2))).toArray, args := #[.func (.yield w1.heap.size) #[] #[]] }) ?_ ?_) g2
      · simp only [resolve, rangeCall, Sem.run_bind, hfv, Deferred.ofValue, Sem.run_pure]
        simp [Act.eval]
      · have harr : (#[.func (.yield w1.heap.size) #[] #[]] ++ (cap.map fun c => Value.pointer (some (at_ μ c.1 c.2))).toArray : Array Value) = (Value.func (.yield w1.heap.size) #[] #[] :: cap.map fun c => Value.pointer (some (at_ μ c.1 c.2))).toArray := by
          apply Array.toList_inj.1; simp
        simp only [invoke]
        rw [harr]; exact g1
    cases ro with
    | none =>
      simp only at h
      obtain ⟨hp', lg', hgp, hrun, hlt⟩ := runM_new h
      have hn := F.here hlt
      have Sn : Sees D (withN D S.nx) μ (ext μ S.nx (w.heap.size, 0, 0)) := Sees.ext hn
      have M1 : MemR P w0 (withN D S.nx) (ext μ S.nx (w.heap.size, 0, 0)) hp' (w.alloc (.deferred (some []))) := by
        refine M.alloc hn (b := .df true) rfl hgp ?_
        show (w.alloc (.deferred (some []))).heap[w.heap.size]? = _
        rw [heap_alloc_new]; rfl
      have hbr : b.roundOf = none := hr.1
      refine key S.nx (S.nx :: df) _ _ _ _ [{ target := .collected w.heap.size, args := #[] }] hrun M1 (F.next hlt) Sn (.inl rfl) ⟨?_, ?_⟩ ?_
      · rw [List.map_cons, ext_new, (hd.sees Sn).1]; rfl
      · intro r hrm
        rcases List.mem_cons.1 hrm with rfl | hrm
        · exact .inl rfl
        · exact .inr (hd.2 r hrm)
      · rw [hbr]
        simp only [Instr.enterLoop, hf, LoopR.obj, ext_new]
        rfl
    | some l0 =>
      simp only at h
      obtain ⟨b0, lg1, hl, h⟩ := runM_rd h
      split at h
      · rename_i r
        obtain ⟨tmps, e1, e2, e3, e4⟩ := M.loop hl
        have hbr : b.roundOf = some (μ l0).1 := hr.1
        refine key r.df df ⟨S.hp, S.nx, S.fl, lg1⟩ D μ w [] h M F (Sees.refl _ _) e4 hd ?_
        rw [hbr]
        have hgl := run_getLoop (P := P) e1
        simp only [Instr.enterLoop, Sem.run_bind, hgl, Result.andThen_ok, Sem.run_pure, hf]
        rfl
      · exact (runM_fail h).elim
  | exit i => intro tm df K S out h B D μ a w M F hg R hd G hB b k cs hf hr hK; exact hK (.out i) tm df S D μ a w h M (Sees.refl _ _) R hd F k rfl
  | scope c ih =>
    intro tm df K S out h B D μ a w M F hg R hd G hB b k cs hf hr hK
    simp only [ev] at h
    refine hB _ _ stepR_scope ?_
    refine ih tm df K S out h B D μ a w M F hg R hd G hB b (.inScope c :: k) cs hf hr ?_
    intro e tm' df' S' D' μ' a' w' q1 q2 q3 q4 q5 q6
    cases e with
    | norm => exact hB _ _ stepR_inScope (hK .norm tm' df' S' D' μ' a' w' q1 q2 q3 q4 q5 q6)
    | ret => exact hK .ret tm' df' S' D' μ' a' w' q1 q2 q3 q4 q5 q6
    | out id => exact fun k1 hk1 => hK (.out id) tm' df' S' D' μ' a' w' q1 q2 q3 q4 q5 q6 k1 (by rw [hk1]; simp [exitTo])
  | goto l => intro tm df K S out h; exact (runM_fail h).elim
  | ret => intro tm df K S out h B D μ a w M F hg R hd G hB b k cs hf hr hK; exact hK .ret tm df S D μ a w h M (Sees.refl _ _) R hd F k
  | refuse s => intro tm df K S out h; exact (runM_fail h).elim
end
end Go.Rn

/-
  A part of a proved evaluator for closed runs. No conditions.
-/
import Derived.Test.YtemlpgeadepmcaaGreatDoorR21
import Derived.RangeFuncIn
import Derived.RangeFuncLeaves
namespace Go.Rn
open Go Go.RowKit
set_option linter.unusedVariables false
set_option linter.unusedSimpArgs false

section
variable {P : Program} {tb : Tab} {w0 w w' : World} {B D D' : Nm} {μ μ' : Mu} {S : St} {out : Out × St} {G : Machine → Prop}
variable {ops : Array Oper} {b : Frame} {a : Act} {k : List Item} {cs : List Frame} {nt : Nat} {tm : Tr AV} {call : CallF}

theorem evDraw_ok (hm : P.follows .mixedOrders = true) (hT : TabOk P tb) (h1 : ∀ t i, tb.ty t = some i → i.agg = false → i.sz = 1) (hC : CallOk P tb w0 call) (hB : Back P G) {K : Tr AV → M} {id : Nat} (hst : drawSt ops.toList = true)
    (h : runM (evDraw P tb call nt ops.toList ops.toList (befs ops.toList) 0 [] tm K) S = some out) (M : MemR P w0 D μ S.hp w) (F : Fresh B D S.nx out.2.nx) (hg : GlobR tb D μ) (R : FrR nt D μ tm a) (hK : RegG P w0 out K nt B D μ G b a.defers k cs) :
    G (lone (b.atR a (.code (.region id ops true) :: k)) cs w) := by
  obtain ⟨r, rs, r2, fl, lg, q1, q2, q3, q4, q5⟩ := evDraw_chain _ _ _ _ _ _ h
  obtain ⟨g1, g2, g3, g4⟩ := chain_step q4
  simp only [drawSt, Bool.and_eq_true] at hst
  have hlen : rs.length = ops.size := by simpa using g1
  let RR : Nat → Rec := fun i => ((rs ++ [r2])[i]?).getD r2
  have hRR : ∀ i a, (rs ++ [r2])[i]? = some a → RR i = a := fun i a h => by simp only [RR, h]; rfl
  have hR0 : RR 0 = r := hRR 0 r g2
  have hRn : RR ops.size = r2 := by
    refine hRR _ _ ?_
    rw [List.getElem?_append_right (by omega), hlen]; simp
  have hbef : ∀ m b, (befs ops.toList)[m]? = some b → ∀ j, b.testBit j = true → Fo ops j m := by
    intro m b hb j hj
    exact befL_spec ops.toList 0 [] rfl rfl (fun m b hm => by omega) m b hb j hj
  have C : Canon P tb call nt ops RR := by
    refine ⟨fun i o ho => ?_, fun i j hi hj hc => ?_, fun i j x o ho hx hj => ?_, fun i o ho e he hb => ?_⟩
    · obtain ⟨x, y, h1, h2, h3⟩ := g3 i o (by simpa using ho)
      rw [hRR i x h1, hRR (i + 1) y h2]; exact h3
    · have hi' : (rs ++ [r2])[i]? = rs[i]? := List.getElem?_append_left (by omega)
      have hj' : (rs ++ [r2])[j]? = rs[j]? := List.getElem?_append_left (by omega)
      have hii : rs[i]? = some rs[i] := by simp [show i < rs.length by omega]
      have hjj : rs[j]? = some rs[j] := by simp [show j < rs.length by omega]
      rw [hRR i rs[i] (by rw [hi', hii]), hRR j rs[j] (by rw [hj', hjj])] at hc
      by_cases hon : rs[i].on = true
      · obtain ⟨bb, e1, e2⟩ := g4 rfl i rs[i] hii hon
        have hb := e2 j rs[j].lg (by omega) (.inr (.inr ⟨Nat.zero_le _, by simp [hjj]⟩)) (fun h => by omega) (fun _ => by simp [hjj]) hc
        exact hbef i bb e1 j hb
      · obtain ⟨x, y, h1, h2, h3⟩ := g3 i ops[i] (by simp [hi])
        rw [hi', hii] at h1; injection h1 with h1; subst h1
        rcases h3.run with ⟨e, _⟩ | ⟨_, _, _, _, e, _⟩
        · exact absurd e hon
        · rw [e, clash_nl] at hc; cases hc
    · obtain ⟨bb, e1, e2⟩ := tmOk_spec hst.2 i o (by simpa using ho)
      rcases e2 j x (by simpa using hx) (by omega) with e | e
      · exact .inl (hbef i bb e1 j e)
      · exact .inr e
    · have := edgesOk_spec hst.1 i o (by simpa using ho) e he hb
      omega
  refine hB _ _ stepR_region_draw ?_
  have hsched : Region.schedule (P.follows .mixedOrders) ops (w.tape w.drawn (.order b.fn id)) = Region.linearise.go .any ops ops.size (w.tape w.drawn (.order b.fn id)) (Array.replicate ops.size false) [] := by
    simp only [Region.schedule, hm, Bool.true_or, if_true, Region.linearise]
  rw [hsched]
  have hrep : ∀ i, i < ops.size → (Array.replicate ops.size false).getD i true = false := fun i hi => by simp [hi]
  have hopen : openN (Array.replicate ops.size false) ops.size = ops.size := by
    unfold openN
    rw [List.filter_eq_self.2 (fun i hi => by rw [hrep i (List.mem_range.1 hi)]; rfl)]
    simp
  have hS := sched_go C.edges ops.size (w.tape w.drawn (.order b.fn id)) (Array.replicate ops.size false) (by simp) hopen
  have hnone : ∀ {κ ν : Type} (X : Nat → κ → Option ν) (W : Nat → κ → Bool) (kk : κ), mixed X W (fun i => (Array.replicate ops.size false).getD i true) ops.size kk = X 0 kk := by
    intro κ ν X W kk
    rw [mixed_later (i := 0) (Nat.zero_le _) (fun j _ hj hA => by rw [hrep j hj] at hA; cases hA)]
    rfl
  have hnx : (RR 0).nx ≤ (RR ops.size).nx := C.nx_mono (Nat.zero_le _) (Nat.le_refl _)
  have hout : r2.nx ≤ out.2.nx := by have := runM_nx q5; exact this
  refine draw_main hT h1 hC hB C (D0 := D) (μ0 := μ) (df := a.defers) ?_ ?_ _ _ hS (by simp) (fun m hm' hA => by rw [hrep m hm'] at hA; cases hA) S.hp a w.drew D μ M.drew ?_ (fun k hk => .inl hk) hg R.size ?_ rfl (Sees.refl _ _)
  · intro kk e1 e2
    rw [hR0, q2] at e1
    rw [hRn] at e2
    exact F.free kk e1 (by omega)
  · intro D' μ' a' w' e1 e2 e3 e4 e5
    rw [hRn] at e1 e3 e5
    rw [hR0, q2] at e5
    refine hK r2.tm ⟨r2.hp, r2.nx, fl, lg⟩ D' μ' a' w' q5 e1 e2 e3 e4 ⟨fun kk h1 h2 hD => ?_, fun kk hD => ?_, fun kk h1 h2 => F.new kk ?_ h2⟩
    · rcases e5 kk hD with h | h
      · rw [hR0, hRn, q2] at hnx
        exact F.free kk (Nat.le_trans hnx h1) h2 h
      · have h1' : r2.nx ≤ kk := h1
        omega
    · rcases e5 kk hD with h | h
      · exact F.inB kk h
      · exact F.new kk h.1 (by omega)
    · rw [hR0, hRn, q2] at hnx
      exact Nat.le_trans hnx h1
  · intro kk bb hb
    rw [hnone] at hb
    unfold heapS at hb
    rw [hR0, q1] at hb
    exact hb
  · intro t x hx
    rw [hnone] at hx
    unfold tmS at hx
    rw [hR0, q3] at hx
    exact R.tm t x hx

/-! ### code -/
def DfR (D : Nm) (μ : Mu) (df : List Nat) (ds : List Deferred) : Prop := ds = df.map (fun r => ({ target := .collected (μ r).1, args := #[] } : Deferred)) ∧ ∀ r ∈ df, D r

theorem DfR.sees {df : List Nat} {ds : List Deferred} (h : DfR D μ df ds) (hs : Sees D D' μ μ') : DfR D' μ' df ds := by
  refine ⟨?_, fun r hr => (hs r (h.2 r hr)).1⟩
  rw [h.1]
  exact List.map_congr_left fun r hr => by rw [(hs r (h.2 r hr)).2]

def RoR (D : Nm) (μ : Mu) (ro : Option Nat) (b : Frame) : Prop := b.roundOf = ro.map (fun l => (μ l).1) ∧ ∀ l, ro = some l → D l

theorem RoR.sees {ro : Option Nat} (h : RoR D μ ro b) (hs : Sees D D' μ μ') : RoR D' μ' ro b := by
  refine ⟨?_, fun l hl => (hs l (h.2 l hl)).1⟩
  rw [h.1]
  cases ro with
  | none => rfl
  | some l => simp [(hs l (h.2 l rfl)).2]

/-- How a piece of code is left. -/
def EndM (G : Machine → Prop) (b : Frame) (k : List Item) (cs : List Frame) (a : Act) (w : World) : Ex → Prop
  | .norm => G (lone (b.atR a k) cs w)
  | .ret => ∀ k1, G (lone (b.atR a (.code .ret :: k1)) cs w)
  | .out id => ∀ k1, exitTo id k1 = exitTo id k → G (lone (b.atR a (.code (.exit id) :: k1)) cs w)

abbrev CodeG (P : Program) (w0 : World) (out : Out × St) (K : Ex → Tr AV → List Nat → M) (nt : Nat) (B D : Nm) (μ : Mu) (G : Machine → Prop) (b : Frame) (k : List Item) (cs : List Frame) : Prop :=
  ∀ e tm' df' S' D' μ' a' w', runM (K e tm' df') S' = some out → MemR P w0 D' μ' S'.hp w' → Sees D D' μ μ' → FrR nt D' μ' tm' a' → DfR D' μ' df' a'.defers → Fresh B D' S'.nx out.2.nx → EndM G b k cs a' w' e

/-- What is to be shown of a piece of code. -/
def CodeOk (P : Program) (tb : Tab) (w0 : World) (fid nt : Nat) (ro : Option Nat) (c : Code) (ev : Tr AV → List Nat → (Ex → Tr AV → List Nat → M) → M) : Prop :=
  ∀ tm df K S out, runM (ev tm df K) S = some out → ∀ B D μ a w, MemR P w0 D μ S.hp w → Fresh B D S.nx out.2.nx → GlobR tb D μ → FrR nt D μ tm a → DfR D μ df a.defers → ∀ G, Back P G → ∀ (b : Frame) k cs, b.fn = fid → RoR D μ ro b →
    CodeG P w0 out K nt B D μ G b k cs → G (lone (b.atR a (.code c :: k)) cs w)

theorem stepR_scope {c : Code} : step P (lone (b.atR a (.code (.scope c) :: k)) cs w) = .next (lone (b.atR a (.code c :: .inScope c :: k)) cs w) :=
  step_lone_go (by simp [stepG, stepG.exec, Frame.atR])
theorem stepR_inScope {c : Code} : step P (lone (b.atR a (.inScope c :: k)) cs w) = .next (lone (b.atR a k) cs w) :=
  step_lone_go (by simp [stepG, stepG.exec, Frame.atR])

theorem loop_ok {fid : Nat} {ro : Option Nat} {c : Code} {e : Tr AV → List Nat → (Ex → Tr AV → List Nat → M) → M} (hc : CodeOk P tb w0 fid nt ro c e) : ∀ n, ∀ tm df K S out, runM (loopM n e tm df K) S = some out → ∀ B D μ a w, MemR P w0 D μ S.hp w → Fresh B D S.nx out.2.nx → GlobR tb D μ → FrR nt D μ tm a → DfR D μ df a.defers → ∀ G, Back P G → ∀ (b : Frame) k cs, b.fn = fid → RoR D μ ro b →
    CodeG P w0 out K nt B D μ G b k cs → G (lone (b.atR a (.code c :: .inLoop c :: k)) cs w)
  | 0, tm, df, K, S, out, h => (runM_fail h).elim
  | n + 1, tm, df, K, S, out, h => by
    intro B D μ a w M F hg R hd G hB b k cs hf hr hK
    simp only [loopM] at h
    refine hc tm df _ S out h B D μ a w M F hg R hd G hB b (.inLoop c :: k) cs hf hr ?_
    intro e' tm' df' S' D' μ' a' w' q1 q2 q3 q4 q5 q6
    cases e' with
    | norm =>
      refine hB _ _ stepR_inLoop ?_
      refine loop_ok hc n tm' df' K S' out q1 B D' μ' a' w' q2 q6 (hg.sees q3) q4 q5 G hB b k cs hf (hr.sees q3) ?_
      intro e2 tm2 df2 S2 D2 μ2 a2 w2 p1 p2 p3 p4 p5 p6
      exact hK e2 tm2 df2 S2 D2 μ2 a2 w2 p1 p2 (q3.trans p3) p4 p5 p6
    | ret => exact hK .ret tm' df' S' D' μ' a' w' q1 q2 q3 q4 q5 q6
    | out id => exact fun k1 hk1 => hK (.out id) tm' df' S' D' μ' a' w' q1 q2 q3 q4 q5 q6 k1 (by rw [hk1]; simp [exitTo])

/-- The record of a loop over a function. -/
theorem run_getLoop {l : Nat} {r : Loop} (h : w.heap[l]? = some (.loop r)) : (Instr.getLoop l).run P w = .ok r w := by
  simp [Instr.getLoop, getObj, Sem.run, h]

theorem run_setLoop {l : Nat} {r : Loop} {o : Obj} (h : w.heap[l]? = some (.loop r)) : (setObj l o).run P w = .ok () (setB w l o) := by
  simp [setObj, Sem.run, h, setB]

theorem MemR.loop (M : MemR P w0 D μ S.hp w) {l : Nat} {r : LoopR} (hl : S.hp.get l = some (.lp r)) : ∃ tmps, w.heap[(μ l).1]? = some (r.obj μ tmps) ∧ tmps.size = r.nt ∧ TmR D μ r.tm tmps ∧ D r.df := by
  obtain ⟨h1, tmps, h2, h3, h4⟩ := M.ok l _ hl
  exact ⟨tmps, h2, h3, h4, h1⟩

/-- The record is written anew; of it only the state and the jump turn. -/
theorem MemR.setLoop (M : MemR P w0 D μ S.hp w) {l : Nat} {r r' : LoopR} (hl : S.hp.get l = some (.lp r)) {tmps : Array Value} (ht : w.heap[(μ l).1]? = some (r.obj μ tmps)) (h3 : tmps.size = r.nt) (h4 : TmR D μ r.tm tmps) (h5 : D r.df)
    (e : r'.fn = r.fn ∧ r'.tm = r.tm ∧ r'.nt = r.nt ∧ r'.ps = r.ps ∧ r'.asg = r.asg ∧ r'.body = r.body ∧ r'.df = r.df) {H' : Tr Blk} (hH : ∀ j, H'.get j = if j = l then some (.lp r') else S.hp.get j) :
    MemR P w0 D μ H' (setB w (μ l).1 (r'.obj μ tmps)) := by
  obtain ⟨e1, e2, e3, e4, e5, e6, e7⟩ := e
  refine M.write hl rfl hH ⟨by rw [e7]; exact h5, tmps, setB_get_same (M.lt l _ hl), by rw [e3]; exact h3, by rw [e2]; exact h4⟩
end
end Go.Rn

/-
  A part of a proved evaluator for closed runs. No conditions.
-/
import Derived.Test.YtemlpgeadepmcaaGreatDoorR13
namespace Go.Rn
open Go Go.RowKit
set_option linter.unusedVariables false
set_option linter.unusedSimpArgs false

section
variable {P : Program} {tb : Tab} {w0 w w' : World} {B D D' : Nm} {μ μ' : Mu} {H H' : Tr Blk} {S : St} {out : Out × St} {K : AV → M}

theorem old_of_cut {M0 : MemR P w0 D μ S.hp w} {t : Rn.T} (ht : t.wf) (off n : Nat) : (t.cut off n).vals μ = ((t.vals μ).drop off).take n := Rn.T.vals_cut ht off n

/-- The cells of a slice that lies in a row. -/
theorem cellsK_row (M : MemR P w0 D μ S.hp w) {k off len cap : Nat} {op : Bool} {t : Rn.T} {ty : TypeId} {o : Bool} (hk : S.hp.get k = some (.c ty t o)) {sz n : Nat} {F : Rn.T → Rn.M} (h : runM (cellsK (.g (.s (.s k off len cap op))) sz n F) S = some out) :
    ∃ lg', runM (F (t.cut off (n * sz))) ⟨S.hp, S.nx, S.fl, lg'⟩ = some out ∧ (t.cut off (n * sz)).size = n * sz := by
  unfold cellsK at h
  obtain ⟨b, lg', hb, h⟩ := runM_rd h
  rw [hk] at hb; injection hb with hb; subst hb
  simp only [Rn.T.cutK_eq] at h
  split at h
  · rename_i hs; exact ⟨lg', h, Nat.eq_of_beq_eq_true hs⟩
  · exact (runM_fail h).elim

theorem evAppend_ok (hT : TabOk P tb) (M : MemR P w0 D μ S.hp w) (F : Fresh B D S.nx out.2.nx) {T U : TypeId} {x y : AV} {a b : Value} (hx : AVr D μ x a) (hy : AVr D μ y b) (ty : TypeId) (h : runM (evAppend tb T U x y K) S = some out) :
    After P w0 out B D μ K ((Builtin.append_ #[T, U] ty #[a, b]).run P w) := by
  unfold evAppend at h
  split at h
  rotate_left
  · exact (runM_fail h).elim
  rename_i e j n he hU hl
  obtain ⟨hu, hj⟩ := elemOf_spec hT he
  have hok := hT.ty e j hj
  have hyl := lenS_spec hy hl
  split at h
  · -- nothing is appended
    split at h
    · obtain ⟨rfl, _⟩ := hx
      exact After.still M F h ⟨rfl, rfl⟩ (run_append_nil0 hT hu hj hU hyl ty w)
    · rename_i k off len cap op
      split at h
      · rename_i hle
        have hle := ble_iff.1 hle
        have hx0 := hx
        obtain ⟨rfl, hxo⟩ := hx
        refine After.still M F h ⟨rfl, hxo⟩ ?_
        have hC : len ≤ (if op then cap + (μ k).2.2 else cap) := by split <;> omega
        have := run_append_in (P := P) (w := w) (w' := w) hT hu hj hU (base := at_ μ k off) (sLen := len) (sCap := if op then cap + (μ k).2.2 else cap) hyl ty (by simpa using hC) (new := []) (firstCells_zero hyl w) rfl
        exact this
      · exact (runM_fail h).elim
    · rename_i k o1 o2
      obtain ⟨rfl, hxo⟩ := hx
      refine After.still M F h ⟨rfl, hxo⟩ ?_
      have := run_append_in (P := P) (w := w) (w' := w) hT hu hj hU (base := at_ μ k (if (μ k).2.2 = 0 then o1 else o2)) (sLen := 0) (sCap := (μ k).2.2) hyl ty (Nat.zero_le _) (new := []) (firstCells_zero hyl w) rfl
      exact this
    · exact (runM_fail h).elim
  · rename_i n1
    obtain ⟨new, lg1, h, hnew, hns, hfn⟩ := cellsK_spec M hy h
    have M1 : MemR P w0 D μ (⟨S.hp, S.nx, S.fl, lg1⟩ : St).hp w := M
    split at h
    · -- nil
      obtain ⟨rfl, _⟩ := hx
      split at h
      · rename_i hb
        have hb := ble_iff.1 hb
        obtain ⟨newCap, rest, r1, r2, r3⟩ := run_append_new hT hu hj hU (w0 := w) hyl ty (base := none) (sLen := 0) (sCap := 0) (by omega) (by simpa using hb) (old := []) (fun w1 _ => by simp [Builtin.firstCells]) hfn
        rw [Nat.zero_add] at r1 r2 r3
        exact newRow_after (S := ⟨S.hp, S.nx, S.fl, lg1⟩) (old := .nl) hT M.drew F hj ⟨trivial, fun x hx => by cases hx⟩ hnew r1 h r2 r3
      · exact (runM_fail h).elim
    · -- an open end
      rename_i k o1 o2 _
      split at h
      · rename_i hb
        have hb := ble_iff.1 hb
        obtain ⟨b0, lg2, hk, h⟩ := runM_rd h
        split at h
        · rename_i ty0 t
          split at h
          · rename_i hc
            simp only [Bool.and_eq_true] at hc
            have ht0 := Nat.eq_of_beq_eq_true hc.1
            have ho2 := Nat.eq_of_beq_eq_true hc.2
            subst ht0
            obtain ⟨rfl, hxo⟩ := hx
            have := append_open (S := ⟨S.hp, S.nx, S.fl, lg2⟩) hT M F hu hj hU (k := k) hk (off := o2) (cap := 0) (len := 0) (n := n1 + 1) hyl (old := .nl) ⟨trivial, fun x hx => by cases hx⟩ hnew (by simp [Rn.T.size]) hns
              (by simp [Rn.T.vals, Rn.T.list, Rn.T.size]) (by omega) (Nat.le_refl _) (by omega) (by simpa using hb) (base := at_ μ k (if (μ k).2.2 = 0 then o1 else o2)) (off2 := 0) (fun hr => by rw [if_neg (by omega)])
              (fun w1 _ => by simp [Builtin.firstCells, loadCells, loadCellsFrom, Rn.T.vals, Rn.T.list]) hfn (by rw [Nat.zero_add]; exact h) ty
            rw [Nat.zero_add] at this
            exact this
          · exact (runM_fail h).elim
        · exact (runM_fail h).elim
      · exact (runM_fail h).elim
    · rename_i k off len cap op _
      simp only [forceN_eq] at h
      split at h
      · -- there is room
        rename_i hroom
        have hroom := ble_iff.1 hroom
        obtain ⟨b0, lg2, hk, h⟩ := runM_rd h
        split at h
        · rename_i ty0 t o
          split at h
          · rename_i hle
            have hle := ble_iff.1 hle
            have hto : t.ok D := (M.ok k _ hk).1
            obtain ⟨t', e1, e2, e3, e4⟩ := Rn.T.layK_spec (β := Rn.M) hto.1 hnew.1 hle
            rw [e1] at h
            obtain ⟨_, hp', lg3, _, hg, h⟩ := runM_wr h
            rw [slK_eq] at h
            obtain ⟨w', hw', M'⟩ := M.storeCells hk hnew hle e3 e2 hg
            obtain ⟨rfl, hxo⟩ := hx
            have hC : len + (n1 + 1) ≤ (if op then cap + (μ k).2.2 else cap) := by split <;> omega
            have hres := run_append_in (P := P) hT hu hj hU (base := at_ μ k off) (sLen := len) (sCap := if op then cap + (μ k).2.2 else cap) hyl ty hC (hfn w fun _ _ => rfl) (by rw [at_add]; exact hw')
            exact ⟨_, _, D, μ, _, w', hres, h, M', Sees.refl _ _, ⟨rfl, hxo⟩, F⟩
          · exact (runM_fail h).elim
        · exact (runM_fail h).elim
      · rename_i hroom
        have hroom := ble_false hroom
        split at h
        · rename_i hb
          have hb := ble_iff.1 hb
          cases op with
          | false =>
            obtain ⟨old, lg2, h, hold, hos, hfo⟩ := cellsK_spec (S := ⟨S.hp, S.nx, S.fl, lg1⟩) M hx h
            obtain ⟨rfl, hxo⟩ := hx
            obtain ⟨newCap, rest, r1, r2, r3⟩ := run_append_new hT hu hj hU (w0 := w) hyl ty (base := some (at_ μ k off)) (sLen := len) (sCap := cap) hroom hb hfo hfn
            exact newRow_after (S := ⟨S.hp, S.nx, S.fl, lg2⟩) hT M.drew F hj hold hnew r1 h r2 r3
          | true =>
            have hx0 := hx
            obtain ⟨rfl, hxo⟩ := hx
            simp only [cellsK] at h
            obtain ⟨b1, lg2, hk, h⟩ := runM_rd h
            simp only at hk
            have key : ∀ t : Rn.T, (∃ ty op, b1 = .c ty t op) ∨ b1 = .gl t → ∀ d : Rn.T, d = t.cut off (len * j.sz) → d.size = len * j.sz → runM (.rd k fun b => match b with
                | .c ty t true => match Nat.beq ty e && (Nat.beq (off + cap * j.sz) t.size && Nat.ble len cap) with
                  | true => .wr k none (newRowK e d new (len + (n1 + 1)) K)
                  | false => .fail
                | _ => .fail) ⟨S.hp, S.nx, S.fl, lg2⟩ = some out → After P w0 out B D μ K ((Builtin.append_ #[T, U] ty #[(GV.s (Sc.s k off len cap true)).val μ, b]).run P w) := by
              intro t ht d hd hds h
              obtain ⟨b2, lg3, hk2, h⟩ := runM_rd h
              simp only at hk2
              rw [hk] at hk2; injection hk2 with hk2; subst hk2
              split at h
              · rename_i ty0 t2 _
                rcases ht with ⟨ty1, op1, ht⟩ | ht
                · injection ht with _ ht _
                  subst ht
                  split at h
                  · rename_i hc
                    simp only [Bool.and_eq_true] at hc
                    have ht0 := Nat.eq_of_beq_eq_true hc.1
                    have hfit := Nat.eq_of_beq_eq_true hc.2.1
                    have hlc := ble_iff.1 hc.2.2
                    subst ht0
                    have hto : t2.ok D := (M.ok k _ hk).1
                    subst hd
                    refine append_open (S := ⟨S.hp, S.nx, S.fl, lg3⟩) hT M F hu hj hU (k := k) hk (off := off) (cap := cap) (len := len) (n := n1 + 1) hyl (Rn.T.cut_ok hto off (len * j.sz)) hnew hds hns
                      (by rw [hds]; exact Rn.T.vals_cut hto.1 off (len * j.sz)) hfit hlc hroom hb (off2 := 0) (fun _ => rfl) (fun w1 hw1 => ?_) hfn h ty
                    obtain ⟨hl, _⟩ := Blk.lies M hk (.inl ⟨_, _, rfl⟩)
                    have hl2 : Lies w1 (μ k).1 ((μ k).2.1 + off) ((t2.cut off (len * j.sz)).vals μ) := by
                      intro i v hv
                      rw [Rn.T.vals_cut hto.1] at hv
                      have := hl.sub off (len * j.sz) i v hv
                      rw [World.cell?_of_block (w := w) (hw1 _ (M.lt k _ hk))]
                      exact this
                    have hr := run_loadCells (P := P) hl2
                    rw [Rn.T.vals_length (Rn.T.cut_spec hto.1 off (len * j.sz)).2, hds] at hr
                    exact hr
                  · exact (runM_fail h).elim
                · cases ht
              · exact (runM_fail h).elim
            have key2 : ∀ t : Rn.T, (∃ ty op, b1 = .c ty t op) ∨ b1 = .gl t → runM (t.cutK off (len * j.sz) fun d => match Nat.beq d.size (len * j.sz) with
                | true => .rd k fun b => match b with
                  | .c ty t true => match Nat.beq ty e && (Nat.beq (off + cap * j.sz) t.size && Nat.ble len cap) with
                    | true => .wr k none (newRowK e d new (len + (n1 + 1)) K)
                    | false => .fail
                  | _ => .fail
                | false => .fail) ⟨S.hp, S.nx, S.fl, lg2⟩ = some out → After P w0 out B D μ K ((Builtin.append_ #[T, U] ty #[(GV.s (Sc.s k off len cap true)).val μ, b]).run P w) := by
              intro t ht h
              rw [Rn.T.cutK_eq] at h
              split at h
              · rename_i hs
                exact key t ht _ rfl (Nat.eq_of_beq_eq_true hs) h
              · exact (runM_fail h).elim
            split at h
            · exact key2 _ (.inl ⟨_, _, rfl⟩) h
            · exact key2 _ (.inr rfl) h
            · exact (runM_fail h).elim
        · exact (runM_fail h).elim
    · exact (runM_fail h).elim
end
end Go.Rn

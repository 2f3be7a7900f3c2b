/-
  A part of a proved evaluator for closed runs. No conditions.
-/
import Derived.Test.YtemlpgeadepmcaaGreatDoorR17
namespace Go.Rn
open Go Go.RowKit
set_option linter.unusedVariables false
set_option linter.unusedSimpArgs false

/-- Who has to go ahead of whom. -/
inductive Fo (ops : Array Oper) : Nat → Nat → Prop
  | one {i : Nat} {o : Oper} {e : Edge} : ops[i]? = some o → e ∈ o.after → Region.binds .any e = true → Fo ops e.on i
  | more {i j : Nat} {o : Oper} {e : Edge} : ops[i]? = some o → e ∈ o.after → Region.binds .any e = true → Fo ops j e.on → Fo ops j i

theorem bitsOf_spec {ops : Array Oper} {acc : List Nat} {n : Nat} {o : Oper} (ho : ops[n]? = some o) (hacc : ∀ m b, m < n → acc[n - 1 - m]? = some b → ∀ j, b.testBit j = true → Fo ops j m) :
    ∀ (l : List Edge) (s : Nat), (∀ e ∈ l, e ∈ o.after) → (∀ j, s.testBit j = true → Fo ops j n) → ∀ j, (bitsOf acc n l s).testBit j = true → Fo ops j n
  | [], s, _, hs, j, h => hs j h
  | e :: l, s, hl, hs, j, h => by
    simp only [bitsOf] at h
    split at h
    · rename_i hc
      simp only [Bool.and_eq_true] at hc
      have hlt := blt_iff.1 hc.2
      refine bitsOf_spec ho hacc l _ (fun e he => hl e (by simp [he])) (fun j hj => ?_) j h
      have hj : (s ||| (2 ^ e.on ||| (match nth acc (n - 1 - e.on) with | some m => m | none => 0))).testBit j = true := hj
      simp only [Nat.testBit_or, Bool.or_eq_true] at hj
      rcases hj with hj | hj | hj
      · exact hs j hj
      · rw [Nat.testBit_two_pow] at hj
        have : e.on = j := by simpa using hj
        subst this
        exact .one ho (hl e (by simp)) hc.1
      · split at hj
        · rename_i m hm
          rw [nth_eq] at hm
          exact .more ho (hl e (by simp)) hc.1 (hacc _ _ hlt hm j hj)
        · simp at hj
    · exact bitsOf_spec ho hacc l s (fun e he => hl e (by simp [he])) hs j h

theorem befL_spec {ops : Array Oper} : ∀ (l : List Oper) (n : Nat) (acc : List Nat), ops.toList.drop n = l → acc.length = n → (∀ m b, m < n → acc[n - 1 - m]? = some b → ∀ j, b.testBit j = true → Fo ops j m) →
    ∀ m b, (befL l n acc).reverse[m]? = some b → ∀ j, b.testBit j = true → Fo ops j m
  | [], n, acc, hl, hn, hacc, m, b, h, j, hj => by
    simp only [befL] at h
    have hlt : m < n := by
      have := (List.getElem?_eq_some_iff.1 h).1
      simpa [hn] using this
    refine hacc m b hlt ?_ j hj
    rw [List.getElem?_reverse (by omega)] at h
    rw [hn] at h; exact h
  | o :: l, n, acc, hl, hn, hacc, m, b, h, j, hj => by
    simp only [befL, forceN_eq] at h
    have ho : ops[n]? = some o := by
      have := congrArg (·[0]?) hl
      simpa using this
    have hl' : ops.toList.drop (n + 1) = l := by
      have := congrArg (List.drop 1) hl
      simpa [List.drop_drop, Nat.add_comm] using this
    refine befL_spec l (n + 1) _ hl' (by simp [hn]) ?_ m b h j hj
    intro m' b' hm' hb' j' hj'
    by_cases hmn : m' = n
    · subst hmn
      simp at hb'
      subst hb'
      exact bitsOf_spec ho hacc o.after.toList 0 (fun e he => by simpa using he) (fun j h => by simp at h) j' hj'
    · rw [show n + 1 - 1 - m' = (n - 1 - m') + 1 by omega] at hb'
      exact hacc m' b' (by omega) (by simpa using hb') j' hj'

theorem clash_nl (a : Tr Bool) : clash a .nl = false := by cases a <;> rfl

theorem clash_spec : ∀ {a b : Tr Bool}, clash a b = false → ∀ k, ¬ (a.get k = some true ∧ (b.get k).isSome = true) ∧ ¬ ((a.get k).isSome = true ∧ b.get k = some true)
  | .nl, b, _, k => by simp [Tr.get]
  | .nd v l r, .nl, _, k => by simp [Tr.get_nl]
  | .nd v l r, .nd v' l' r', h, k => by
    simp only [clash] at h
    split at h
    · cases h
    · cases h
    · rename_i h1 h2
      split at h
      · cases h
      · rename_i hl
        cases k with
        | zero =>
          simp only [Tr.get]
          constructor
          · rintro ⟨rfl, h4⟩
            cases v' with
            | none => cases h4
            | some x => exact h1 x rfl rfl
          · rintro ⟨h3, rfl⟩
            cases v with
            | none => cases h3
            | some x => exact h2 x rfl rfl
        | succ k =>
          simp only [Tr.get]
          split
          · exact clash_spec hl _
          · exact clash_spec h _

theorem edgesOk1_spec {i : Nat} : ∀ {l : List Edge}, edgesOk1 i l = true → ∀ e ∈ l, Region.binds .any e = true → e.on < i
  | [], _, e, he, _ => by cases he
  | x :: l, h, e, he, hb => by
    simp only [edgesOk1] at h
    rcases List.mem_cons.1 he with rfl | he
    · rw [hb] at h; simp only [Bool.and_eq_true] at h; exact blt_iff.1 h.1
    · split at h
      · simp only [Bool.and_eq_true] at h; exact edgesOk1_spec h.2 e he hb
      · exact edgesOk1_spec h e he hb

theorem edgesOk_spec : ∀ {l : List Oper} {i : Nat}, edgesOk l i = true → ∀ p o, l[p]? = some o → ∀ e ∈ o.after, Region.binds .any e = true → e.on < i + p
  | [], i, _, p, o, h, _, _, _ => by simp at h
  | x :: l, i, h, p, o, hp, e, he, hb => by
    simp only [edgesOk, Bool.and_eq_true] at h
    cases p with
    | zero =>
      simp at hp; subst hp
      exact edgesOk1_spec h.1 e (by simpa using he) hb
    | succ p =>
      have := edgesOk_spec h.2 p o (by simpa using hp) e he hb
      omega

theorem tmOk1_spec {all : List Oper} {o : Oper} {bef i : Nat} : ∀ {l : List Oper} {j : Nat}, tmOk1 all o bef i l j = true → ∀ p a, l[p]? = some a → j + p < i → bef.testBit (j + p) = true ∨ tmClash all a o = false
  | [], j, _, p, a, h, _ => by simp at h
  | x :: l, j, h, p, a, hp, hlt => by
    simp only [tmOk1] at h
    split at h
    · rename_i hb; have := blt_false hb; omega
    · cases p with
      | zero =>
        simp at hp; subst hp
        split at h
        · rename_i hb; exact .inl hb
        · split at h
          · cases h
          · rename_i hb; exact .inr hb
      | succ p =>
        have key : tmOk1 all o bef i l (j + 1) = true := by
          split at h
          · exact h
          · split at h
            · cases h
            · exact h
        have := tmOk1_spec key p a (by simpa using hp) (by omega)
        rwa [show j + 1 + p = j + (p + 1) by omega] at this

theorem tmOk_spec {all : List Oper} : ∀ {l : List Oper} {bs : List Nat} {i : Nat}, tmOk all l bs i = true → ∀ p o, l[p]? = some o → ∃ b, bs[p]? = some b ∧ ∀ j a, all[j]? = some a → j < i + p → b.testBit j = true ∨ tmClash all a o = false
  | [], bs, i, _, p, o, h => by simp at h
  | x :: l, bs, i, h, p, o, hp => by
    simp only [tmOk] at h
    split at h
    · cases h
    · rename_i b bs'
      simp only [Bool.and_eq_true] at h
      cases p with
      | zero =>
        simp at hp; subst hp
        refine ⟨b, by simp, fun j a ha hj => ?_⟩
        have := tmOk1_spec h.1 j a ha (by omega)
        simpa using this
      | succ p =>
        obtain ⟨b', h1, h2⟩ := tmOk_spec h.2 p o (by simpa using hp)
        exact ⟨b', by simpa using h1, fun j a ha hj => h2 j a ha (by omega)⟩

theorem memN_iff {x : Nat} : ∀ {l : List Nat}, memN x l = true ↔ x ∈ l
  | [] => by simp [memN]
  | y :: l => by
    simp only [memN]
    split
    · rename_i h; have := Nat.eq_of_beq_eq_true h; simp [this]
    · rename_i h
      have : x ≠ y := fun e => by subst e; rw [Nat.beq_refl] at h; cases h
      rw [memN_iff]; simp [this]

theorem tmClash_spec {all : List Oper} {a b : Oper} (h : tmClash all a b = false) : (∀ d, a.dst = some d → d ∉ looksT all b) ∧ (∀ d, b.dst = some d → d ∉ looksT all a) ∧ ∀ d, a.dst = some d → b.dst ≠ some d := by
  unfold tmClash at h
  simp only [Bool.or_eq_false_iff] at h
  obtain ⟨⟨h1, h2⟩, h3⟩ := h
  refine ⟨fun d hd hm => ?_, fun d hd hm => ?_, fun d hd hb => ?_⟩
  · rw [hd] at h1; simp only [dstIn] at h1; rw [memN_iff.2 hm] at h1; cases h1
  · rw [hd] at h2; simp only [dstIn] at h2; rw [memN_iff.2 hm] at h2; cases h2
  · rw [hd, hb] at h3; simp only [Nat.beq_refl] at h3; cases h3

theorem logsOk_spec {lg : Tr Bool} {b : Nat} : ∀ {ls : List (Tr Bool)} {n : Nat}, ls.length = n → logsOk lg b ls n = true → ∀ j l, j < n → ls[n - 1 - j]? = some l → clash l lg = true → b.testBit j = true
  | [], n, hn, _, j, l, hj, h, _ => by simp at h
  | x :: ls, n, hn, h, j, l, hj, hl, hc => by
    simp only [List.length_cons] at hn
    subst hn
    simp only [logsOk, Nat.add_sub_cancel] at h
    by_cases hjn : j = ls.length
    · subst hjn
      simp at hl; subst hl
      rw [hc] at h
      simp only at h
      split at h
      · rename_i hb; exact hb
      · cases h
    · have key : logsOk lg b ls ls.length = true := by
        split at h
        · split at h
          · exact h
          · cases h
        · exact h
      refine logsOk_spec rfl key j l (by omega) ?_ hc
      rw [show ls.length + 1 - 1 - j = (ls.length - 1 - j) + 1 by omega] at hl
      simpa using hl

/-! ### the schedule -/
inductive Sched (ops : Array Oper) : Array Bool → List Nat → Prop
  | done {listed : Array Bool} : (∀ i, i < ops.size → listed.getD i true = true) → Sched ops listed []
  | step {listed : Array Bool} {i : Nat} {o : Oper} {l : List Nat} : ops[i]? = some o → listed.getD i true = false → (∀ e ∈ o.after, Region.binds .any e = true → listed.getD e.on false = true) →
      Sched ops (listed.setIfInBounds i true) l → Sched ops listed (i :: l)

def openN (listed : Array Bool) (n : Nat) : Nat := ((List.range n).filter fun i => !listed.getD i true).length

theorem getD_both' {listed : Array Bool} {i : Nat} (h : listed.getD i true = false) : listed.getD i false = false := by
  rcases Nat.lt_or_ge i listed.size with h' | h'
  · simp [h'] at h ⊢; exact h
  · simp [Array.getElem?_eq_none h'] at h

theorem openN_set {listed : Array Bool} {n i : Nat} (hs : listed.size = n) (hi : i < n) (h : listed.getD i true = false) : openN (listed.setIfInBounds i true) n + 1 = openN listed n := by
  unfold openN
  have hmem : i ∈ List.range n := List.mem_range.2 hi
  have hnd : (List.range n).Nodup := List.nodup_range
  have key : ∀ l : List Nat, l.Nodup → i ∈ l → (∀ x ∈ l, x < n) → (l.filter fun j => !(listed.setIfInBounds i true).getD j true).length + 1 = (l.filter fun j => !listed.getD j true).length := by
    intro l
    induction l with
    | nil => intro _ h; cases h
    | cons x l ih =>
      intro hnd hm hlt
      have hx := hlt x (by simp)
      have hset : ∀ j, j ≠ i → (listed.setIfInBounds i true).getD j true = listed.getD j true := fun j hj => by
        rw [Array.getD_eq_getD_getElem?, Array.getD_eq_getD_getElem?, Array.getElem?_setIfInBounds_ne (Ne.symm hj)]
      have hseti : (listed.setIfInBounds i true).getD i true = true := by
        rw [Array.getD_eq_getD_getElem?, Array.getElem?_setIfInBounds_self_of_lt (by omega)]; rfl
      rw [List.nodup_cons] at hnd
      by_cases hxi : x = i
      · subst hxi
        rw [List.filter_cons, List.filter_cons, hseti, h]
        simp only [Bool.not_true, Bool.false_eq_true, if_false, Bool.not_false, if_true, List.length_cons]
        congr 2
        apply List.filter_congr
        intro j hj
        rw [hset j (fun e => hnd.1 (e ▸ hj))]
      · have hm' : i ∈ l := by
          rcases List.mem_cons.1 hm with e | e
          · exact absurd e.symm hxi
          · exact e
        have := ih hnd.2 hm' (fun y hy => hlt y (by simp [hy]))
        rw [List.filter_cons, List.filter_cons, hset x hxi]
        split
        · simp only [List.length_cons]; omega
        · exact this
  exact key _ hnd hmem (fun x hx => List.mem_range.1 hx)

theorem sched_go {ops : Array Oper} (he : ∀ i o, ops[i]? = some o → ∀ e ∈ o.after, Region.binds .any e = true → e.on < i) : ∀ (fuel t : Nat) (listed : Array Bool), listed.size = ops.size → openN listed ops.size = fuel →
    Sched ops listed (Region.linearise.go .any ops fuel t listed []) := by
  intro fuel
  have hall : ∀ listed : Array Bool, listed.size = ops.size → Region.ready .any ops listed = [] → ∀ i, i < ops.size → listed.getD i true = true := by
    intro listed hs hr i
    induction i using Nat.strongRecOn with
    | _ i ih =>
      intro hi
      cases hl : listed.getD i true with
      | true => rfl
      | false =>
        exfalso
        have : i ∈ Region.ready .any ops listed := by
          refine mem_ready.2 ⟨hl, ops[i], by simp [hi], fun e hm hb => ?_⟩
          have hlt := he i ops[i] (by simp [hi]) e hm hb
          have := ih e.on hlt (by omega)
          have hsz : e.on < listed.size := by omega
          simpa [hsz] using this
        rw [hr] at this; cases this
  induction fuel with
  | zero =>
    intro t listed hs hf
    simp only [Region.linearise.go, List.reverse_nil]
    refine .done fun i hi => ?_
    cases hl : listed.getD i true with
    | true => rfl
    | false =>
      exfalso
      have hm : i ∈ (List.range ops.size).filter fun i => !listed.getD i true := by
        rw [List.mem_filter]; exact ⟨List.mem_range.2 hi, by simp [hl]⟩
      unfold openN at hf
      rw [List.eq_nil_of_length_eq_zero hf] at hm; cases hm
  | succ fuel ih =>
    intro t listed hs hf
    simp only [Region.linearise.go]
    change Sched ops listed (match (Region.ready .any ops listed)[t % (Region.ready .any ops listed).length]? with
      | some i => Region.linearise.go .any ops fuel (t / (Region.ready .any ops listed).length) (listed.setIfInBounds i true) [i]
      | none => [].reverse)
    cases hi : (Region.ready .any ops listed)[t % (Region.ready .any ops listed).length]? with
    | none =>
      have hnil : Region.ready .any ops listed = [] := by
        cases hr : Region.ready .any ops listed with
        | nil => rfl
        | cons x xs =>
          rw [hr] at hi
          have hlt : t % (x :: xs).length < (x :: xs).length := Nat.mod_lt _ (by simp)
          simp at hi
          simp at hlt
          omega
      exact .done (hall listed hs hnil)
    | some i =>
      obtain ⟨h1, o, ho, h2⟩ := mem_ready.1 (List.mem_of_getElem? hi)
      simp only
      rw [linearise_go_acc, List.reverse_singleton, List.singleton_append]
      have hlt := (Array.getElem?_eq_some_iff.1 ho).1
      refine .step ho h1 h2 (ih _ _ (by simp [hs]) ?_)
      have := openN_set hs hlt h1
      omega
end Go.Rn

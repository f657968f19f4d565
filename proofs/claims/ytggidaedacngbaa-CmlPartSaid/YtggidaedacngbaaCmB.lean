/- Logs: what a record speaks of; what is deleted out of a list. -/
import Derived.Test.YtggidaedacngbaaCmA
set_option linter.unusedVariables false
set_option linter.unusedSimpArgs false
namespace Go.Proofs.Ytggidaedacngbaa.S
open Go Go.Proofs Go.Proofs.Bw

theorem inKb {R : Type} {i : Int} {n : Nat} {K : Option R} (h0 : 0 ≤ i) (h1 : i < (n : Int)) : inK' i n K = K := by simp [inK', h0, h1]

/-! slices_DeleteFunc -/
theorem slices_DeleteFunc_idx (n : Nat) (c : Unit) (p : Int → Bool) (l : List Int) (hl : l.length ≤ 1000) (hp : ∀ e : Int, tree_Names_1.f n e = some (p e)) : ∀ (k i : Nat), i ≤ l.length → l.length - i < k → (∀ e ∈ l.take i, p e = false) →
    ∃ r, slices_IndexFunc.l2 n k l c (l.length : Int) (i : Int) = some r ∧ ((r = -1 ∧ ∀ e ∈ l, p e = false) ∨ ∃ (i0 : Nat) (e : Int), r = (i0 : Int) ∧ l[i0]? = some e ∧ p e = true ∧ ∀ e ∈ l.take i0, p e = false)
  | 0, i, _, h, _ => by omega
  | k + 1, i, hi, h, hb => by
    rw [slices_IndexFunc.l2]
    by_cases hlt : i < l.length
    · have hg : l[i]? = some l[i] := List.getElem?_eq_getElem hlt
      generalize l[i] = e at hg
      rw [decide_eq_true (show (i : Int) < (l.length : Int) by omega), cond_true, idxK_at (e := e) (by omega) (by simpa using hg)]
      have hpe := hp e
      simp only [hpe, Option.bind_some]
      cases he : p e with
      | true => exact ⟨i, rfl, .inr ⟨i, e, rfl, hg, he, hb⟩⟩
      | false =>
        simp only [cond_false, slices_IndexFunc.j3]
        rw [i64_wrap (by omega) (by omega), show (i : Int) + 1 = ((i + 1 : Nat) : Int) by omega]
        refine slices_DeleteFunc_idx n c p l hl hp k (i + 1) (by omega) (by omega) fun x hx => ?_
        rw [List.take_succ_eq_append_getElem hlt, List.mem_append] at hx
        rcases hx with hx | hx
        · exact hb x hx
        · simp only [List.mem_singleton] at hx
          have : l[i]? = some l[i] := List.getElem?_eq_getElem hlt
          rw [hg] at this
          injection this with this
          rw [hx, ← this]; exact he
    · rw [decide_eq_false (by omega), cond_false]
      refine ⟨-1, rfl, .inl ⟨rfl, fun e he => hb e ?_⟩⟩
      rw [List.take_of_length_le (by omega)]; exact he
theorem slices_DeleteFunc_loop (n : Nat) (c : Unit) (p : Int → Bool) (l : List Int) (hl : l.length ≤ 1000) (hp : ∀ e : Int, tree_Names_1.f n e = some (p e)) : ∀ (d k : Nat) (x0 : List Int) (i j : Nat), j + d = l.length → d < k → x0.length = l.length → i < j → x0.drop j = l.drop j → x0.take i = (l.take j).filter (fun e => !p e) →
    slices_DeleteFunc.l2 n k x0 c (i : Int) (j : Int) = some (l.filter fun e => !p e) := by
  intro d
  induction d with
  | zero =>
    intro k x0 i j hj hk hx hij hd ht
    obtain ⟨k, rfl⟩ : ∃ m, k = m + 1 := ⟨k - 1, by omega⟩
    have hti : (x0.take i).length = i := by rw [List.length_take]; omega
    rw [slices_DeleteFunc.l2, decide_eq_false (by omega), cond_false, slices_DeleteFunc.j1, sliceK_in (by omega) (by omega) (by omega)]
    unfold eqK
    rw [if_pos (by omega), sliceK_in (by omega) (by omega) (by simp; omega), Int.toNat_natCast]
    rw [List.take_append_of_le_length (by omega), List.take_of_length_le (by omega), ht, List.take_of_length_le (by omega)]
  | succ d ih =>
    intro k x0 i j hj hk hx hij hd ht
    obtain ⟨k, rfl⟩ : ∃ m, k = m + 1 := ⟨k - 1, by omega⟩
    have hlt : j < l.length := by omega
    have hg : l[j]? = some l[j] := List.getElem?_eq_getElem hlt
    have hsucc : l.take (j + 1) = l.take j ++ [l[j]] := List.take_succ_eq_append_getElem hlt
    generalize l[j] = e at hg hsucc
    have hgx : x0[j]? = some e := by
      have h1 : (x0.drop j)[0]? = (l.drop j)[0]? := by rw [hd]
      simp only [List.getElem?_drop, Nat.add_zero] at h1
      rw [h1, hg]
    have hdd : x0.drop (j + 1) = l.drop (j + 1) := by
      rw [← List.drop_drop, hd, List.drop_drop]
    have hpe := hp e
    rw [slices_DeleteFunc.l2, decide_eq_true (by omega), cond_true, idxK_at (e := e) (by omega) (by simpa using hgx)]
    simp only [hpe, Option.bind_some]
    have hw : IntKind.i64.wrap ((j : Int) + 1) = ((j + 1 : Nat) : Int) := by rw [i64_wrap (by omega) (by omega)]; omega
    cases he : p e with
    | true =>
      simp only [Bool.not_true, cond_false, slices_DeleteFunc.j3, hw]
      refine ih k x0 i (j + 1) (by omega) (by omega) hx (by omega) hdd ?_
      rw [hsucc, List.filter_append, ht]
      simp [he]
    | false =>
      have hgi : x0[i]? = some x0[i] := List.getElem?_eq_getElem (by omega)
      simp only [Bool.not_false, cond_true, slices_DeleteFunc.j3, hw]
      rw [inKb (by omega) (by omega), idxK_at (e := x0[i]'(by omega)) (by omega) (by rw [Int.toNat_natCast]; exact hgi), i64_wrap (by omega) (by omega), show (i : Int) + 1 = ((i + 1 : Nat) : Int) by omega]
      have hset : lset x0 (i : Int) e = x0.set i e := by unfold lset; rw [Int.toNat_natCast]
      rw [hset]
      refine ih k (x0.set i e) (i + 1) (j + 1) (by omega) (by omega) (by simpa using hx) (by omega) ?_ ?_
      · rw [List.drop_set_of_lt (by omega)]; exact hdd
      · rw [hsucc, List.filter_append, ← ht]
        have : (x0.set i e).take (i + 1) = x0.take i ++ [e] := by
          rw [List.take_succ_eq_append_getElem (by simp; omega), List.getElem_set_self]
          congr 1
          apply List.ext_getElem?
          intro m
          rw [List.getElem?_take, List.getElem?_take]
          split
          · rw [List.getElem?_set_ne (by omega)]
          · rfl
        rw [this]
        simp [he]
theorem slices_DeleteFunc_run (n : Nat) (hn : 1000 < n) (c : Unit) (p : Int → Bool) (l : List Int) (hl : l.length ≤ 1000) (hp : ∀ e : Int, tree_Names_1.f n e = some (p e)) : slices_DeleteFunc.f n l c = some (l.filter fun e => !p e) := by
  unfold slices_DeleteFunc.f slices_IndexFunc.f
  obtain ⟨r, h1, h2⟩ := slices_DeleteFunc_idx n c p l hl hp n 0 (by omega) (by omega) (by simp)
  rw [show ((0 : Nat) : Int) = 0 from rfl] at h1
  rw [h1]
  simp only [Option.bind_some]
  rcases h2 with ⟨rfl, h2⟩ | ⟨i0, e, rfl, h2, h3, h4⟩
  · rw [decide_eq_true rfl, cond_true]
    congr 1
    exact (List.filter_eq_self.2 fun e he => by rw [h2 e he]; rfl).symm
  · have hlt : i0 < l.length := (List.getElem?_eq_some_iff.1 h2).1
    rw [decide_eq_false (by omega), cond_false, i64_wrap (by omega) (by omega), show (i0 : Int) + 1 = ((i0 + 1 : Nat) : Int) by omega]
    refine slices_DeleteFunc_loop n c p l hl hp (l.length - (i0 + 1)) n l i0 (i0 + 1) (by omega) (by omega) rfl (by omega) rfl ?_
    have hs : l.take (i0 + 1) = l.take i0 ++ [l[i0]] := List.take_succ_eq_append_getElem hlt
    have : l[i0]? = some l[i0] := List.getElem?_eq_getElem hlt
    rw [h2] at this
    injection this with this
    rw [hs, ← this, List.filter_append, List.filter_eq_self.2 fun e he => by rw [h4 e he]; rfl]
    simp [h3]

/-! what a record speaks of -/
def names3 (o : DOp) : List Int := [o.2.1, o.2.2.1, o.2.2.2.2.1].filter fun e => !decide (e = 0)
def touB (r : DRecord) (f : Int) : Bool := decide (f ∈ names3 r.1)
theorem Names_run (n : Nat) (hn : 1000 < n) (o : DOp) : tree_Names.f n o = some (names3 o) := by
  unfold tree_Names.f
  rw [slices_DeleteFunc_run n hn () (fun e => decide (e = 0)) _ (by simp) (fun e => rfl)]
  rfl
theorem Index_loop (n : Nat) (l : List Int) (f : Int) (hl : l.length ≤ 1000) : ∀ k i : Nat, i ≤ l.length → l.length - i < k → ∃ r, slices_Index.l2 n k l f (l.length : Int) (i : Int) = some r ∧ (0 ≤ r ↔ f ∈ l.drop i)
  | 0, i, _, h => by omega
  | k + 1, i, hi, h => by
    rw [slices_Index.l2]
    by_cases hlt : i < l.length
    · have hd : l.drop i = l[i] :: l.drop (i + 1) := List.drop_eq_getElem_cons hlt
      have hg : l[i]? = some l[i] := List.getElem?_eq_getElem hlt
      generalize l[i] = e at hg hd
      rw [decide_eq_true (show (i : Int) < (l.length : Int) by omega), cond_true, idxK_at (e := e) (by omega) (by simpa using hg), hd]
      by_cases he : f = e
      · rw [decide_eq_true he, cond_true]
        exact ⟨i, rfl, by subst he; simp⟩
      · rw [decide_eq_false he, cond_false, slices_Index.j3, i64_wrap (by omega) (by omega), show (i : Int) + 1 = ((i + 1 : Nat) : Int) by omega]
        obtain ⟨r, h1, h2⟩ := Index_loop n l f hl k (i + 1) (by omega) (by omega)
        exact ⟨r, h1, by rw [h2]; simp [he]⟩
    · rw [decide_eq_false (by omega), cond_false, List.drop_of_length_le (by omega)]
      exact ⟨-1, rfl, by simp⟩
theorem names3_len (o : DOp) : (names3 o).length ≤ 3 := by
  have := List.length_filter_le (fun e : Int => !decide (e = 0)) [o.2.1, o.2.2.1, o.2.2.2.2.1]
  simpa [names3] using this
theorem Touches_run (n : Nat) (hn : 1000 < n) (r : DRecord) (f : Int) : cml_Touches.f n r f = some (touB r f) := by
  have hN := Names_run n hn r.1
  unfold cml_Touches.f
  have e : tree_Names.f n (r.1.1, r.1.2.1, r.1.2.2.1, r.1.2.2.2.1, r.1.2.2.2.2.1, r.1.2.2.2.2.2.1, r.1.2.2.2.2.2.2.1, r.1.2.2.2.2.2.2.2.1, r.1.2.2.2.2.2.2.2.2) = some (names3 r.1) := hN
  rw [e]
  simp only [Option.bind_some, slices_Contains.f, slices_Index.f]
  have hl := names3_len r.1
  obtain ⟨x, h1, h2⟩ := Index_loop n (names3 r.1) f (by omega) n 0 (by omega) (by omega)
  rw [show ((0 : Nat) : Int) = 0 from rfl] at h1
  rw [h1]
  simp only [Option.bind_some, List.drop_zero] at h2 ⊢
  rw [touB]
  congr 1
  exact decide_eq_decide.2 h2
theorem rNames_run (n : Nat) (o : DOp) : r06_Names.f n o = some (names3 o) := by
  obtain ⟨k, f, at_, nm, to, nm2, md, dt, u⟩ := o
  simp only [r06_Names.f, r06_Names.j1, r06_Names.j2, r06_Names.j3, names3]
  by_cases h1 : f = 0 <;> by_cases h2 : at_ = 0 <;> by_cases h3 : to = 0 <;> simp [h1, h2, h3, appK]
theorem rTou_loop (n : Nat) (l : List Int) (f : Int) (hl : l.length ≤ 1000) : ∀ k i : Nat, i ≤ l.length → l.length - i < k → r08_Touches.l2 n k f l (i : Int) = some (decide (f ∈ l.drop i))
  | 0, i, _, h => by omega
  | k + 1, i, hi, h => by
    rw [r08_Touches.l2]
    by_cases hlt : i < l.length
    · have hd : l.drop i = l[i] :: l.drop (i + 1) := List.drop_eq_getElem_cons hlt
      have hg : l[i]? = some l[i] := List.getElem?_eq_getElem hlt
      generalize l[i] = e at hg hd
      rw [decide_eq_true (show (i : Int) < (l.length : Int) by omega), cond_true, idxK_at (e := e) (by omega) (by simpa using hg), hd]
      by_cases he : e = f
      · rw [decide_eq_true he, cond_true]
        subst he; simp
      · rw [decide_eq_false he, cond_false, r08_Touches.j3, i64_wrap (by omega) (by omega), show (i : Int) + 1 = ((i + 1 : Nat) : Int) by omega, rTou_loop n l f hl k (i + 1) (by omega) (by omega)]
        simp [Ne.symm he]
    · rw [decide_eq_false (by omega), cond_false, List.drop_of_length_le (by omega)]
      rfl
theorem rTouches_run (n : Nat) (hn : 1000 < n) (r : DRecord) (f : Int) : r08_Touches.f n r f = some (touB r f) := by
  unfold r08_Touches.f
  have e : r06_Names.f n (r.1.1, r.1.2.1, r.1.2.2.1, r.1.2.2.2.1, r.1.2.2.2.2.1, r.1.2.2.2.2.2.1, r.1.2.2.2.2.2.2.1, r.1.2.2.2.2.2.2.2.1, r.1.2.2.2.2.2.2.2.2) = some (names3 r.1) := rNames_run n r.1
  rw [e]
  simp only [Option.bind_some]
  have hl := names3_len r.1
  exact rTou_loop n (names3 r.1) f (by omega) n 0 (by omega) (by omega)
theorem Opt1_run (n : Nat) (hn : 1000 < n) (r : DRecord) (f : Int) : cml_Optimise_1.f n r f = some (touB r f) := by
  unfold cml_Optimise_1.f
  have : cml_Touches.f n ((r.1.1, r.1.2.1, r.1.2.2.1, r.1.2.2.2.1, r.1.2.2.2.2.1, r.1.2.2.2.2.2.1, r.1.2.2.2.2.2.2.1, r.1.2.2.2.2.2.2.2.1, r.1.2.2.2.2.2.2.2.2), r.2.1, r.2.2) f = some (touB r f) := Touches_run n hn r f
  rw [this]; rfl

/-! slices_DeleteFunc_31 -/
theorem slices_DeleteFunc_31_idx (n : Nat) (c : (Int × Unit)) (p : DRecord → Bool) (l : List DRecord) (hl : l.length ≤ 1000) (hp : ∀ e : DRecord, cml_Optimise_1.f n ((e.1.1, e.1.2.1, e.1.2.2.1, e.1.2.2.2.1, e.1.2.2.2.2.1, e.1.2.2.2.2.2.1, e.1.2.2.2.2.2.2.1, e.1.2.2.2.2.2.2.2.1, e.1.2.2.2.2.2.2.2.2), e.2.1, e.2.2) c.1 = some (p e)) : ∀ (k i : Nat), i ≤ l.length → l.length - i < k → (∀ e ∈ l.take i, p e = false) →
    ∃ r, slices_IndexFunc_47.l2 n k l c (l.length : Int) (i : Int) = some r ∧ ((r = -1 ∧ ∀ e ∈ l, p e = false) ∨ ∃ (i0 : Nat) (e : DRecord), r = (i0 : Int) ∧ l[i0]? = some e ∧ p e = true ∧ ∀ e ∈ l.take i0, p e = false)
  | 0, i, _, h, _ => by omega
  | k + 1, i, hi, h, hb => by
    rw [slices_IndexFunc_47.l2]
    by_cases hlt : i < l.length
    · have hg : l[i]? = some l[i] := List.getElem?_eq_getElem hlt
      generalize l[i] = e at hg
      rw [decide_eq_true (show (i : Int) < (l.length : Int) by omega), cond_true, idxK_at (e := e) (by omega) (by simpa using hg)]
      have hpe := hp e
      simp only [hpe, Option.bind_some]
      cases he : p e with
      | true => exact ⟨i, rfl, .inr ⟨i, e, rfl, hg, he, hb⟩⟩
      | false =>
        simp only [cond_false, slices_IndexFunc_47.j3]
        rw [i64_wrap (by omega) (by omega), show (i : Int) + 1 = ((i + 1 : Nat) : Int) by omega]
        refine slices_DeleteFunc_31_idx n c p l hl hp k (i + 1) (by omega) (by omega) fun x hx => ?_
        rw [List.take_succ_eq_append_getElem hlt, List.mem_append] at hx
        rcases hx with hx | hx
        · exact hb x hx
        · simp only [List.mem_singleton] at hx
          have : l[i]? = some l[i] := List.getElem?_eq_getElem hlt
          rw [hg] at this
          injection this with this
          rw [hx, ← this]; exact he
    · rw [decide_eq_false (by omega), cond_false]
      refine ⟨-1, rfl, .inl ⟨rfl, fun e he => hb e ?_⟩⟩
      rw [List.take_of_length_le (by omega)]; exact he
theorem slices_DeleteFunc_31_loop (n : Nat) (c : (Int × Unit)) (p : DRecord → Bool) (l : List DRecord) (hl : l.length ≤ 1000) (hp : ∀ e : DRecord, cml_Optimise_1.f n ((e.1.1, e.1.2.1, e.1.2.2.1, e.1.2.2.2.1, e.1.2.2.2.2.1, e.1.2.2.2.2.2.1, e.1.2.2.2.2.2.2.1, e.1.2.2.2.2.2.2.2.1, e.1.2.2.2.2.2.2.2.2), e.2.1, e.2.2) c.1 = some (p e)) : ∀ (d k : Nat) (x0 : List DRecord) (i j : Nat), j + d = l.length → d < k → x0.length = l.length → i < j → x0.drop j = l.drop j → x0.take i = (l.take j).filter (fun e => !p e) →
    slices_DeleteFunc_31.l2 n k x0 c (i : Int) (j : Int) = some (l.filter fun e => !p e) := by
  intro d
  induction d with
  | zero =>
    intro k x0 i j hj hk hx hij hd ht
    obtain ⟨k, rfl⟩ : ∃ m, k = m + 1 := ⟨k - 1, by omega⟩
    have hti : (x0.take i).length = i := by rw [List.length_take]; omega
    rw [slices_DeleteFunc_31.l2, decide_eq_false (by omega), cond_false, slices_DeleteFunc_31.j1, sliceK_in (by omega) (by omega) (by omega)]
    unfold eqK
    rw [if_pos (by omega), sliceK_in (by omega) (by omega) (by simp; omega), Int.toNat_natCast]
    rw [List.take_append_of_le_length (by omega), List.take_of_length_le (by omega), ht, List.take_of_length_le (by omega)]
  | succ d ih =>
    intro k x0 i j hj hk hx hij hd ht
    obtain ⟨k, rfl⟩ : ∃ m, k = m + 1 := ⟨k - 1, by omega⟩
    have hlt : j < l.length := by omega
    have hg : l[j]? = some l[j] := List.getElem?_eq_getElem hlt
    have hsucc : l.take (j + 1) = l.take j ++ [l[j]] := List.take_succ_eq_append_getElem hlt
    generalize l[j] = e at hg hsucc
    have hgx : x0[j]? = some e := by
      have h1 : (x0.drop j)[0]? = (l.drop j)[0]? := by rw [hd]
      simp only [List.getElem?_drop, Nat.add_zero] at h1
      rw [h1, hg]
    have hdd : x0.drop (j + 1) = l.drop (j + 1) := by
      rw [← List.drop_drop, hd, List.drop_drop]
    have hpe := hp e
    rw [slices_DeleteFunc_31.l2, decide_eq_true (by omega), cond_true, idxK_at (e := e) (by omega) (by simpa using hgx)]
    simp only [hpe, Option.bind_some]
    have hw : IntKind.i64.wrap ((j : Int) + 1) = ((j + 1 : Nat) : Int) := by rw [i64_wrap (by omega) (by omega)]; omega
    cases he : p e with
    | true =>
      simp only [Bool.not_true, cond_false, slices_DeleteFunc_31.j3, hw]
      refine ih k x0 i (j + 1) (by omega) (by omega) hx (by omega) hdd ?_
      rw [hsucc, List.filter_append, ht]
      simp [he]
    | false =>
      have hgi : x0[i]? = some x0[i] := List.getElem?_eq_getElem (by omega)
      simp only [Bool.not_false, cond_true, slices_DeleteFunc_31.j3, hw]
      rw [inKb (by omega) (by omega), idxK_at (e := x0[i]'(by omega)) (by omega) (by rw [Int.toNat_natCast]; exact hgi), i64_wrap (by omega) (by omega), show (i : Int) + 1 = ((i + 1 : Nat) : Int) by omega]
      have hset : lset x0 (i : Int) e = x0.set i e := by unfold lset; rw [Int.toNat_natCast]
      rw [hset]
      refine ih k (x0.set i e) (i + 1) (j + 1) (by omega) (by omega) (by simpa using hx) (by omega) ?_ ?_
      · rw [List.drop_set_of_lt (by omega)]; exact hdd
      · rw [hsucc, List.filter_append, ← ht]
        have : (x0.set i e).take (i + 1) = x0.take i ++ [e] := by
          rw [List.take_succ_eq_append_getElem (by simp; omega), List.getElem_set_self]
          congr 1
          apply List.ext_getElem?
          intro m
          rw [List.getElem?_take, List.getElem?_take]
          split
          · rw [List.getElem?_set_ne (by omega)]
          · rfl
        rw [this]
        simp [he]
theorem slices_DeleteFunc_31_run (n : Nat) (hn : 1000 < n) (c : (Int × Unit)) (p : DRecord → Bool) (l : List DRecord) (hl : l.length ≤ 1000) (hp : ∀ e : DRecord, cml_Optimise_1.f n ((e.1.1, e.1.2.1, e.1.2.2.1, e.1.2.2.2.1, e.1.2.2.2.2.1, e.1.2.2.2.2.2.1, e.1.2.2.2.2.2.2.1, e.1.2.2.2.2.2.2.2.1, e.1.2.2.2.2.2.2.2.2), e.2.1, e.2.2) c.1 = some (p e)) : slices_DeleteFunc_31.f n l c = some (l.filter fun e => !p e) := by
  unfold slices_DeleteFunc_31.f slices_IndexFunc_47.f
  obtain ⟨r, h1, h2⟩ := slices_DeleteFunc_31_idx n c p l hl hp n 0 (by omega) (by omega) (by simp)
  rw [show ((0 : Nat) : Int) = 0 from rfl] at h1
  rw [h1]
  simp only [Option.bind_some]
  rcases h2 with ⟨rfl, h2⟩ | ⟨i0, e, rfl, h2, h3, h4⟩
  · rw [decide_eq_true rfl, cond_true]
    congr 1
    exact (List.filter_eq_self.2 fun e he => by rw [h2 e he]; rfl).symm
  · have hlt : i0 < l.length := (List.getElem?_eq_some_iff.1 h2).1
    rw [decide_eq_false (by omega), cond_false, i64_wrap (by omega) (by omega), show (i0 : Int) + 1 = ((i0 + 1 : Nat) : Int) by omega]
    refine slices_DeleteFunc_31_loop n c p l hl hp (l.length - (i0 + 1)) n l i0 (i0 + 1) (by omega) (by omega) rfl (by omega) rfl ?_
    have hs : l.take (i0 + 1) = l.take i0 ++ [l[i0]] := List.take_succ_eq_append_getElem hlt
    have : l[i0]? = some l[i0] := List.getElem?_eq_getElem hlt
    rw [h2] at this
    injection this with this
    rw [hs, ← this, List.filter_append, List.filter_eq_self.2 fun e he => by rw [h4 e he]; rfl]
    simp [h3]
end Go.Proofs.Ytggidaedacngbaa.S

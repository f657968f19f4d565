/- Logs: the first pair of a log, and a log without it. -/
import Derived.Test.YtggidaedacngbaaCmC
set_option linter.unusedVariables false
set_option linter.unusedSimpArgs false
namespace Go.Proofs.Ytggidaedacngbaa.S
open Go Go.Proofs Go.Proofs.Bw

theorem pme {α β : Type} (p : α × β) : (p.1, p.2) = p := rfl
theorem bAnd (p q : Bool) : (bif p then some q else some false) = some (p && q) := by cases p <;> rfl
theorem bOr (p q : Bool) : (bif p then some true else some q) = some (p || q) := by cases p <;> rfl
theorem idxN {R : Type} {l : List DRecord} {i : Nat} {e : DRecord} (h : l[i]? = some e) (f : DRecord → Option R) : idxK l (i : Int) f = f e := idxK_at (e := e) (by omega) (by rw [Int.toNat_natCast]; exact h)
def cmlB (r : DRecord) : Bool := decide (r.1.1 = 8) || decide (r.1.1 = 9)
def keyR (r : DRecord) : Dcontent := (r.1.1, r.1.2.1, ())
def undoN (k : Int) : Int := if k = 1 ∨ k = 3 then 5 else if k = 2 then 6 else 0
def entB (r : DRecord) (a : Int) (s : List Int) : Bool := (decide (r.1.2.2.1 = a) && decide (r.1.2.2.2.1 = s)) || (decide (r.1.2.2.2.2.1 = a) && decide (r.1.2.2.2.2.2.1 = s))
def blkB (a b : DRecord) : Bool := (touB b a.1.2.1 || entB b a.1.2.2.1 a.1.2.2.2.1) && !(cmlB b && decide (b.1.2.1 = a.1.2.1))
def mkB (a b : DRecord) : Bool := !decide (undoN a.1.1 = 0) && (decide (b.1.1 = undoN a.1.1) && decide (b.1.2.2.1 = a.1.2.2.1) && decide (b.1.2.2.2.1 = a.1.2.2.2.1))
def find1 (a : DRecord) : List DRecord → Option Nat
  | [] => none
  | b :: t => bif mkB a b then some 0 else bif blkB a b then none else (find1 a t).map (· + 1)
def pairL : List DRecord → Option (Nat × Nat)
  | [] => none
  | a :: t => match find1 a t with
    | some d => some (0, d + 1)
    | none => (pairL t).map fun p => (p.1 + 1, p.2 + 1)
theorem find1_undo {a : DRecord} (h : undoN a.1.1 = 0) : ∀ t, find1 a t = none
  | [] => rfl
  | b :: t => by
    have hm : mkB a b = false := by simp [mkB, h]
    rw [find1, hm, find1_undo h t]
    cases blkB a b <;> rfl
theorem find1_lt {a : DRecord} : ∀ {t : List DRecord} {d : Nat}, find1 a t = some d → d < t.length
  | [], d, h => by simp [find1] at h
  | b :: t, d, h => by
    rw [find1] at h
    cases hm : mkB a b with
    | true => rw [hm] at h; simp at h; subst h; simp
    | false =>
      cases hb : blkB a b with
      | true => rw [hm, hb] at h; simp at h
      | false =>
        rw [hm, hb] at h
        simp only [cond_false, Option.map_eq_some_iff] at h
        obtain ⟨x, h1, h2⟩ := h
        have := find1_lt h1
        simp; omega
theorem pairL_lt : ∀ {l : List DRecord} {p : Nat × Nat}, pairL l = some p → p.1 < p.2 ∧ p.2 < l.length
  | [], p, h => by simp [pairL] at h
  | a :: t, p, h => by
    rw [pairL] at h
    cases hf : find1 a t with
    | some d =>
      rw [hf] at h
      simp only [Option.some.injEq] at h
      subst h
      have := find1_lt hf
      simp; omega
    | none =>
      rw [hf] at h
      simp only [Option.map_eq_some_iff] at h
      obtain ⟨x, h1, h2⟩ := h
      have := pairL_lt h1
      subst h2
      simp; omega

theorem of_run (n : Nat) (r : DRecord) : cml_of.f n r = some (keyR r, cmlB r, ()) := by
  unfold cml_of.f
  rw [bOr]; rfl
theorem undo_run (n : Nat) (k : Int) : cml_undo.f n k = some (undoN k) := by
  unfold cml_undo.f
  by_cases h1 : k = 1
  · simp [h1, cml_undo.j2, undoN]
  · by_cases h3 : k = 3
    · simp [h3, cml_undo.j2, undoN]
    · by_cases h2 : k = 2
      · simp [h2, cml_undo.j2, undoN]
      · simp [h1, h2, h3, cml_undo.j2, cml_undo.j1, undoN]
theorem names_run (n : Nat) (r : DRecord) (a : Int) (s : List Int) : cml_names.f n r a s = some (entB r a s) := by
  unfold cml_names.f
  simp only [bAnd, bOr, Option.bind_some, entB]
theorem entry_run (n : Nat) (r : DRecord) (a : Int) (s : List Int) : r08_entry.f n r a s = some (entB r a s) := by
  unfold r08_entry.f
  simp only [bAnd, bOr, Option.bind_some, entB]
theorem content_run (n : Nat) (r : DRecord) (f : Int) : r08_content.f n r f = some (cmlB r && decide (r.1.2.1 = f)) := by
  unfold r08_content.f
  simp only [bAnd, bOr, Option.bind_some, cmlB]

theorem pair_l4 (n : Nat) (hn : 1000 < n) (kr2 : (List DRecord) → Int → Int → Option (Int × Int × Bool × Unit)) (l : List DRecord) (hl : l.length ≤ 1000) (a : DRecord) (i x13 : Int) (hu : undoN a.1.1 ≠ 0) : ∀ (k j : Nat), j ≤ l.length → l.length - j < k →
    cml_pair.l4 n kr2 k l i a.1 (undoN a.1.1) (j : Int) x13 i = match find1 a (l.drop j) with
      | some d => some (i, ((j + d : Nat) : Int), true, ())
      | none => cml_pair.j3 n kr2 l x13 i
  | 0, j, _, h => by omega
  | k + 1, j, hj, h => by
    rw [cml_pair.l4]
    by_cases hlt : j < l.length
    · have hd : l.drop j = l[j] :: l.drop (j + 1) := List.drop_eq_getElem_cons hlt
      have hg : l[j]? = some l[j] := List.getElem?_eq_getElem hlt
      generalize l[j] = b at hg hd
      have ih := pair_l4 n hn kr2 l hl a i x13 hu k (j + 1) (by omega) (by omega)
      rw [decide_eq_true (show (j : Int) < (l.length : Int) by omega), cond_true, hd, find1]
      simp only [idxN hg, pme, of_run, Touches_run n hn, names_run, bAnd, bOr, Option.bind_some]
      have hm : (decide (b.1.1 = undoN a.1.1) && decide (b.1.2.2.1 = a.1.2.2.1) && decide (b.1.2.2.2.1 = a.1.2.2.2.1)) = mkB a b := by simp [mkB, hu]
      have hb : ((touB b a.1.2.1 || entB b a.1.2.2.1 a.1.2.2.2.1) && !(cmlB b && decide ((keyR b).2.1 = a.1.2.1))) = blkB a b := rfl
      rw [hm, hb]
      cases mkB a b with
      | true => rfl
      | false =>
        cases blkB a b with
        | true => rfl
        | false =>
          simp only [cond_false, cml_pair.j5, pme]
          rw [i64_wrap (by omega) (by omega), show (j : Int) + 1 = ((j + 1 : Nat) : Int) by omega, ih]
          cases find1 a (l.drop (j + 1)) with
          | none => rfl
          | some d => simp only [Option.map_some]; rw [show j + 1 + d = j + (d + 1) by omega]
    · rw [decide_eq_false (by omega), cond_false, List.drop_of_length_le (by omega)]
      rfl
theorem pair_l2 (n : Nat) (hn : 1000 < n) (l : List DRecord) (hl : l.length ≤ 1000) : ∀ (k i : Nat), i ≤ l.length → l.length - i < k →
    cml_pair.l2 n k l (l.length : Int) (i : Int) = match pairL (l.drop i) with
      | some p => some (((i + p.1 : Nat) : Int), ((i + p.2 : Nat) : Int), true, ())
      | none => some ((0 : Int), (0 : Int), false, ())
  | 0, i, _, h => by omega
  | k + 1, i, hi, h => by
    rw [cml_pair.l2]
    by_cases hlt : i < l.length
    · have hd : l.drop i = l[i] :: l.drop (i + 1) := List.drop_eq_getElem_cons hlt
      have hg : l[i]? = some l[i] := List.getElem?_eq_getElem hlt
      generalize l[i] = a at hg hd
      have ih := pair_l2 n hn l hl k (i + 1) (by omega) (by omega)
      have hj : cml_pair.j3 n (cml_pair.l2 n k) l (l.length : Int) (i : Int) = match (pairL (l.drop (i + 1))).map (fun p => (p.1 + 1, p.2 + 1)) with
          | some p => some (((i + p.1 : Nat) : Int), ((i + p.2 : Nat) : Int), true, ())
          | none => some ((0 : Int), (0 : Int), false, ()) := by
        unfold cml_pair.j3
        rw [i64_wrap (by omega) (by omega), show (i : Int) + 1 = ((i + 1 : Nat) : Int) by omega, ih]
        cases pairL (l.drop (i + 1)) with
        | none => rfl
        | some p => simp only [Option.map_some]; rw [show i + 1 + p.1 = i + (p.1 + 1) by omega, show i + 1 + p.2 = i + (p.2 + 1) by omega]
      rw [decide_eq_true (show (i : Int) < (l.length : Int) by omega), cond_true, hd, pairL]
      simp only [idxN hg, pme, undo_run, Option.bind_some]
      by_cases hu : undoN a.1.1 = 0
      · rw [decide_eq_true hu, cond_true, find1_undo hu, hj]
      · rw [decide_eq_false hu, cond_false, i64_wrap (by omega) (by omega), show (i : Int) + 1 = ((i + 1 : Nat) : Int) by omega, pair_l4 n hn (cml_pair.l2 n k) l hl a (i : Int) (l.length : Int) hu n (i + 1) (by omega) (by omega)]
        cases find1 a (l.drop (i + 1)) with
        | none => exact hj
        | some d => simp only []; rw [show i + 1 + d = i + (d + 1) by omega]; rfl
    · rw [decide_eq_false (by omega), cond_false, List.drop_of_length_le (by omega)]
      rfl
theorem pair_run (n : Nat) (hn : 1000 < n) (l : List DRecord) (hl : l.length ≤ 1000) : cml_pair.f n l = match pairL l with
      | some p => some ((p.1 : Int), (p.2 : Int), true, ())
      | none => some ((0 : Int), (0 : Int), false, ()) := by
  have := pair_l2 n hn l hl n 0 (by omega) (by omega)
  simp only [List.drop_zero, Nat.zero_add] at this
  exact this

/-! the document's -/
theorem rpair_l2 (n : Nat) (hn : 1000 < n) (l : List DRecord) (hl : l.length ≤ 1000) (a : DRecord) (j : Nat) (hj : j ≤ l.length) : ∀ (k i : Nat), i ≤ j → j - i < k →
    r08_pair.l2 n k l (j : Int) a.1 (i : Int) = some (!((l.take j).drop i).any (blkB a))
  | 0, i, _, h => by omega
  | k + 1, i, hi, h => by
    rw [r08_pair.l2]
    by_cases hlt : i < j
    · have hlt2 : i < (l.take j).length := by rw [List.length_take]; omega
      have hd : (l.take j).drop i = (l.take j)[i] :: (l.take j).drop (i + 1) := List.drop_eq_getElem_cons hlt2
      have hg : l[i]? = some (l.take j)[i] := by rw [List.getElem_take, List.getElem?_eq_getElem]
      generalize (l.take j)[i] = b at hg hd
      have ih := rpair_l2 n hn l hl a j hj k (i + 1) (by omega) (by omega)
      rw [decide_eq_true (show (i : Int) < (j : Int) by omega), cond_true, hd, List.any_cons]
      simp only [idxN hg, pme, rTouches_run n hn, entry_run, content_run, bAnd, bOr, Option.bind_some]
      have hb : ((touB b a.1.2.1 || entB b a.1.2.2.1 a.1.2.2.2.1) && !(cmlB b && decide (b.1.2.1 = a.1.2.1))) = blkB a b := rfl
      rw [hb]
      cases blkB a b with
      | true => rfl
      | false =>
        simp only [cond_false, r08_pair.j3, pme, Bool.false_or]
        rw [i64_wrap (by omega) (by omega), show (i : Int) + 1 = ((i + 1 : Nat) : Int) by omega, ih]
    · rw [decide_eq_false (by omega), cond_false, List.drop_of_length_le (by rw [List.length_take]; omega)]
      rfl
theorem rpair_run (n : Nat) (hn : 1000 < n) (l : List DRecord) (hl : l.length ≤ 1000) {a b : DRecord} {i j : Nat} (ha : l[i]? = some a) (hb : l[j]? = some b) (hij : i < j) (hj : j < l.length) :
    r08_pair.f n l (i : Int) (j : Int) = some (mkB a b && !((l.take j).drop (i + 1)).any (blkB a)) := by
  unfold r08_pair.f
  simp only [idxN ha, idxN hb, pme, bAnd, bOr, Option.bind_some]
  have hm : (!(decide (b.1.1 = (5 : Int)) && (decide (a.1.1 = (1 : Int)) || decide (a.1.1 = (3 : Int))) || decide (b.1.1 = (6 : Int)) && decide (a.1.1 = (2 : Int))) || !decide (a.1.2.2.1 = b.1.2.2.1) || !decide (a.1.2.2.2.1 = b.1.2.2.2.1)) = !mkB a b := by
    unfold mkB undoN
    rw [show decide (b.1.2.2.1 = a.1.2.2.1) = decide (a.1.2.2.1 = b.1.2.2.1) from decide_eq_decide.2 eq_comm, show decide (b.1.2.2.2.1 = a.1.2.2.2.1) = decide (a.1.2.2.2.1 = b.1.2.2.2.1) from decide_eq_decide.2 eq_comm]
    cases decide (a.1.2.2.1 = b.1.2.2.1) <;> cases decide (a.1.2.2.2.1 = b.1.2.2.2.1) <;> try simp
    by_cases h1 : a.1.1 = 1
    · simp [h1]
    · by_cases h3 : a.1.1 = 3
      · simp [h3]
      · by_cases h2 : a.1.1 = 2
        · simp [h2]
        · simp [h1, h2, h3]
  rw [hm]
  cases mkB a b with
  | false => rfl
  | true =>
    simp only [Bool.not_true, cond_false, Bool.true_and]
    rw [i64_wrap (by omega) (by omega), show (i : Int) + 1 = ((i + 1 : Nat) : Int) by omega]
    exact rpair_l2 n hn l hl a j (by omega) n (i + 1) (by omega) (by omega)

/-! a log without a pair -/
def selN (i j : Nat) (f : Int) : Nat → List DRecord → List DRecord
  | _, [] => []
  | k, x :: t => bif (!decide (k = i) && !decide (k = j)) && !((decide (i < k) && decide (k < j)) && touB x f) then x :: selN i j f (k + 1) t else selN i j f (k + 1) t
def onceAt (l : List DRecord) (i j : Nat) (f : Int) : List DRecord := l.take i ++ ((l.take j).drop (i + 1)).filter (fun e => !touB e f) ++ l.drop (j + 1)
theorem sel_app (i j : Nat) (f : Int) : ∀ (u v : List DRecord) (k : Nat), selN i j f k (u ++ v) = selN i j f k u ++ selN i j f (k + u.length) v
  | [], v, k => by simp [selN]
  | x :: u, v, k => by
    rw [List.cons_append, selN, selN, sel_app i j f u v (k + 1), List.length_cons, show k + 1 + u.length = k + (u.length + 1) by omega]
    cases (!decide (k = i) && !decide (k = j)) && !((decide (i < k) && decide (k < j)) && touB x f) <;> rfl
theorem sel_low (i j : Nat) (f : Int) (hij : i < j) : ∀ (u : List DRecord) (k : Nat), k + u.length ≤ i → selN i j f k u = u
  | [], k, _ => rfl
  | x :: u, k, h => by
    rw [List.length_cons] at h
    rw [selN, decide_eq_false (by omega), decide_eq_false (show ¬ k = j by omega), decide_eq_false (show ¬ i < k by omega), sel_low i j f hij u (k + 1) (by omega)]
    rfl
theorem sel_high (i j : Nat) (f : Int) (hij : i < j) : ∀ (u : List DRecord) (k : Nat), j < k → selN i j f k u = u
  | [], k, _ => rfl
  | x :: u, k, h => by
    rw [selN, decide_eq_false (by omega), decide_eq_false (show ¬ k = j by omega), decide_eq_true (show i < k by omega), decide_eq_false (show ¬ k < j by omega), sel_high i j f hij u (k + 1) (by omega)]
    rfl
theorem sel_mid (i j : Nat) (f : Int) : ∀ (u : List DRecord) (k : Nat), i < k → k + u.length ≤ j → selN i j f k u = u.filter (fun e => !touB e f)
  | [], k, _, _ => rfl
  | x :: u, k, h, h2 => by
    rw [List.length_cons] at h2
    rw [selN, decide_eq_false (by omega), decide_eq_false (show ¬ k = j by omega), decide_eq_true (show i < k by omega), decide_eq_true (show k < j by omega), sel_mid i j f u (k + 1) (by omega) (by omega), List.filter_cons]
    cases touB x f <;> rfl
theorem sel_once (l : List DRecord) (i j : Nat) (f : Int) (hij : i < j) (hj : j < l.length) : selN i j f 0 l = onceAt l i j f := by
  have h1 : l = l.take i ++ (l[i] :: ((l.take j).drop (i + 1) ++ (l[j] :: l.drop (j + 1)))) := by
    have e1 : l.drop j = l[j] :: l.drop (j + 1) := List.drop_eq_getElem_cons hj
    have e2 : l.drop i = l[i] :: l.drop (i + 1) := List.drop_eq_getElem_cons (by omega)
    have e3 : l.drop (i + 1) = (l.take j).drop (i + 1) ++ l.drop j := by
      conv => lhs; rw [← List.take_append_drop j l]
      rw [List.drop_append_of_le_length (by rw [List.length_take]; omega)]
    rw [← e1, ← e3, ← e2, List.take_append_drop]
  have hlen1 : (l.take i).length = i := by rw [List.length_take]; omega
  have hlen2 : ((l.take j).drop (i + 1)).length = j - (i + 1) := by rw [List.length_drop, List.length_take]; omega
  conv => lhs; rw [h1]
  rw [sel_app, sel_low i j f hij _ 0 (by omega), hlen1, Nat.zero_add, selN, decide_eq_true rfl]
  simp only [Bool.not_true, Bool.false_and, cond_false]
  rw [sel_app, sel_mid i j f _ (i + 1) (by omega) (by omega), hlen2, show i + 1 + (j - (i + 1)) = j by omega, selN, decide_eq_true (show j = j from rfl)]
  simp only [Bool.not_true, Bool.and_false, Bool.false_and, cond_false]
  rw [sel_high i j f hij _ (j + 1) (by omega)]
  unfold onceAt
  rw [List.append_assoc]
theorem ronce_l7 (n : Nat) (hn : 1000 < n) (kr2 : (List DRecord) → Int → Option ((List DRecord) × Bool × Unit)) (kr4 : (List DRecord) → Int → Int → Option ((List DRecord) × Bool × Unit)) (l : List DRecord) (hl : l.length ≤ 1000) {a : DRecord} {i : Nat} (j : Nat) (ha : l[i]? = some a) : ∀ (k x : Nat) (acc : List DRecord), x ≤ l.length → l.length - x < k → acc.length ≤ x →
    r08_once.l7 n kr2 kr4 k l (i : Int) (j : Int) acc (x : Int) = some (acc ++ selN i j a.1.2.1 x (l.drop x), true, ())
  | 0, x, acc, _, h, _ => by omega
  | k + 1, x, acc, hx, h, hacc => by
    rw [r08_once.l7]
    by_cases hlt : x < l.length
    · have hd : l.drop x = l[x] :: l.drop (x + 1) := List.drop_eq_getElem_cons hlt
      have hg : l[x]? = some l[x] := List.getElem?_eq_getElem hlt
      generalize l[x] = b at hg hd
      have ih := fun acc' h' => ronce_l7 n hn kr2 kr4 l hl j ha k (x + 1) acc' (by omega) (by omega) h'
      rw [decide_eq_true (show (x : Int) < (l.length : Int) by omega), cond_true, hd, selN]
      simp only [idxN hg, idxN ha, pme, rTouches_run n hn, bAnd, bOr, Option.bind_some]
      rw [show decide ((x : Int) = (i : Int)) = decide (x = i) from decide_eq_decide.2 (by omega), show decide ((x : Int) = (j : Int)) = decide (x = j) from decide_eq_decide.2 (by omega), show decide ((i : Int) < (x : Int)) = decide (i < x) from decide_eq_decide.2 (by omega), show decide ((x : Int) < (j : Int)) = decide (x < j) from decide_eq_decide.2 (by omega)]
      have hw : IntKind.i64.wrap ((x : Int) + 1) = ((x + 1 : Nat) : Int) := by rw [i64_wrap (by omega) (by omega)]; omega
      cases (!decide (x = i) && !decide (x = j)) && !((decide (i < x) && decide (x < j)) && touB b a.1.2.1) with
      | true =>
        simp only [cond_true, r08_once.j8]
        rw [appK_in (by simp; omega), hw, ih _ (by simp; omega)]
        simp
      | false =>
        simp only [cond_false, r08_once.j8]
        rw [hw, ih _ (by omega)]
    · rw [decide_eq_false (by omega), cond_false, List.drop_of_length_le (by omega), selN, List.append_nil]
      rfl
theorem ronce_l4 (n : Nat) (hn : 1000 < n) (kr2 : (List DRecord) → Int → Option ((List DRecord) × Bool × Unit)) (l : List DRecord) (hl : l.length ≤ 1000) {a : DRecord} {i : Nat} (ha : l[i]? = some a) : ∀ (k j : Nat), i < j → j ≤ l.length → l.length - j < k →
    r08_once.l4 n kr2 k l (i : Int) (j : Int) = match (bif ((l.take j).drop (i + 1)).any (blkB a) then none else find1 a (l.drop j)) with
      | some d => some (onceAt l i (j + d) a.1.2.1, true, ())
      | none => r08_once.j3 n kr2 l (i : Int)
  | 0, j, _, _, h => by omega
  | k + 1, j, hij, hj, h => by
    rw [r08_once.l4]
    by_cases hlt : j < l.length
    · have hd : l.drop j = l[j] :: l.drop (j + 1) := List.drop_eq_getElem_cons hlt
      have hg : l[j]? = some l[j] := List.getElem?_eq_getElem hlt
      have ht : (l.take (j + 1)).drop (i + 1) = (l.take j).drop (i + 1) ++ [l[j]] := by
        rw [List.take_succ_eq_append_getElem hlt, List.drop_append_of_le_length (by rw [List.length_take]; omega)]
      generalize l[j] = b at hg hd ht
      have ih := ronce_l4 n hn kr2 l hl ha k (j + 1) (by omega) (by omega) (by omega)
      have hw : IntKind.i64.wrap ((j : Int) + 1) = ((j + 1 : Nat) : Int) := by rw [i64_wrap (by omega) (by omega)]; omega
      rw [ht, List.any_append, List.any_cons, List.any_nil, Bool.or_false] at ih
      rw [decide_eq_true (show (j : Int) < (l.length : Int) by omega), cond_true, hd, find1, rpair_run n hn l hl ha hg hij hlt]
      simp only [Option.bind_some]
      cases hany : ((l.take j).drop (i + 1)).any (blkB a) with
      | true =>
        simp only [Bool.not_true, Bool.and_false, Bool.not_false, cond_true, r08_once.j5]
        rw [hw, ih, hany]
        rfl
      | false =>
        cases mkB a b with
        | true =>
          simp only [Bool.not_false, Bool.and_true, Bool.not_true, cond_true, cond_false]
          have h7 := ronce_l7 n hn kr2 (r08_once.l4 n kr2 k) l hl j ha n 0 [] (by omega) (by omega) (by simp)
          rw [List.drop_zero, List.nil_append, sel_once l i j _ hij hlt] at h7
          exact h7
        | false =>
          simp only [Bool.not_false, Bool.and_true, cond_true, cond_false, r08_once.j5]
          rw [hw, ih, hany, Bool.false_or]
          cases blkB a b with
          | true => rfl
          | false =>
            simp only [cond_false]
            cases find1 a (l.drop (j + 1)) with
            | none => rfl
            | some d => simp only [Option.map_some]; rw [show j + 1 + d = j + (d + 1) by omega]
    · rw [decide_eq_false (by omega), cond_false, List.drop_of_length_le (show l.length ≤ j by omega)]
      cases ((l.take j).drop (i + 1)).any (blkB a) <;> rfl
def onceL (l : List DRecord) : Option (List DRecord) :=
  match pairL l with
  | none => none
  | some p => (l[p.1]?).map fun a => onceAt l p.1 p.2 a.1.2.1
theorem ronce_l2 (n : Nat) (hn : 1000 < n) (l : List DRecord) (hl : l.length ≤ 1000) : ∀ (k i : Nat), i ≤ l.length → l.length - i < k →
    r08_once.l2 n k l (i : Int) = match pairL (l.drop i) with
      | some p => (l[i + p.1]?).map fun a => (onceAt l (i + p.1) (i + p.2) a.1.2.1, true, ())
      | none => some (([] : List DRecord), false, ())
  | 0, i, _, h => by omega
  | k + 1, i, hi, h => by
    rw [r08_once.l2]
    by_cases hlt : i < l.length
    · have hd : l.drop i = l[i] :: l.drop (i + 1) := List.drop_eq_getElem_cons hlt
      have hg : l[i]? = some l[i] := List.getElem?_eq_getElem hlt
      generalize l[i] = a at hg hd
      have ih := ronce_l2 n hn l hl k (i + 1) (by omega) (by omega)
      have hw : IntKind.i64.wrap ((i : Int) + 1) = ((i + 1 : Nat) : Int) := by rw [i64_wrap (by omega) (by omega)]; omega
      rw [decide_eq_true (show (i : Int) < (l.length : Int) by omega), cond_true, hd, pairL, hw, ronce_l4 n hn (r08_once.l2 n k) l hl hg n (i + 1) (by omega) (by omega) (by omega)]
      rw [List.drop_of_length_le (show (l.take (i + 1)).length ≤ i + 1 by rw [List.length_take]; omega)]
      simp only [List.any_nil, cond_false]
      cases find1 a (l.drop (i + 1)) with
      | some d =>
        simp only [Nat.add_zero]
        rw [hg, show i + 1 + d = i + (d + 1) by omega]
        rfl
      | none =>
        simp only [r08_once.j3]
        rw [hw, ih]
        cases pairL (l.drop (i + 1)) with
        | none => rfl
        | some p => simp only [Option.map_some]; rw [show i + 1 + p.1 = i + (p.1 + 1) by omega, show i + 1 + p.2 = i + (p.2 + 1) by omega]
    · rw [decide_eq_false (by omega), cond_false, List.drop_of_length_le (by omega)]
      rfl
theorem ronce_run (n : Nat) (hn : 1000 < n) (l : List DRecord) (hl : l.length ≤ 1000) : r08_once.f n l = match onceL l with
      | some x => some (x, true, ())
      | none => some (([] : List DRecord), false, ()) := by
  have := ronce_l2 n hn l hl n 0 (by omega) (by omega)
  simp only [List.drop_zero, Nat.zero_add] at this
  unfold onceL
  refine this.trans ?_
  cases hp : pairL l with
  | none => rfl
  | some p =>
    have := pairL_lt hp
    simp only [List.getElem?_eq_getElem (show p.1 < l.length by omega), Option.map_some]
end Go.Proofs.Ytggidaedacngbaa.S

/- Deeds on both, one behind the other: they part never. -/
import Derived.Test.YtpkpihcdbgckkaaRpF
set_option linter.unusedVariables false
set_option linter.unusedSimpArgs false
namespace Go.Proofs.Ytpkpihcdbgckkaa.S
open Go Go.Proofs Go.Proofs.Bw

def own4 (own : Bool) (last p : DPacket) : DPacket := bif own then last else p
theorem do_stake (n : Nat) (q : Q) (l : List Dpast) (last : DPacket) (s : List Int) (now : Int) (p : DPacket) (c : Int) (own : Bool) (hl3 : l.length = 3) (hp0 : ∀ e ∈ l, Past e) (hl : Pk last) (hp : Pk p) :
    ∃ l', l'.length = 3 ∧ (∀ e ∈ l', Past e) ∧ law11_both_do.f n (X q l last) (4, s, now, p, c, own, ()) = some (X q l' last, true) := by
  have hw : Pk (own4 own last p) := by cases own; exact hp; exact hl
  obtain ⟨i, e, hi3, he, hm, hi⟩ := at_i hl3 (own4 own last p).2.1
  have hi' : (own4 own last p).1 = 1 → rightB (own4 own last p) = true → (own4 own last p).2.1 = (i : Int) + 1 := fun h1 h2 => by
    have := right_range h2 h1
    exact hi this.1 this.2
  have hA := Take_run n l i e (own4 own last p) hi' hi3 he
  have hB := STake_B n l i e (own4 own last p) hw.nn hi' hi3 he
  obtain ⟨l', h1, h2, h3⟩ := takeC_inv (i := i) (e := e) hw hl3 hp0
  refine ⟨l', h2, h3, ?_⟩
  generalize takeC l i e (own4 own last p) = o at hA hB h1
  obtain ⟨o1, bd, ok, pk, ag, u⟩ := o
  simp only at h1
  subst h1
  have key : law11_both_do.j3 n (X q l last) (own4 own last p) = some (X q l' last, true) := by
    generalize own4 own last p = pp at hA hB
    obtain ⟨k1, f1, t1, ep1, sq1, bd1, u1⟩ := pp
    obtain ⟨k0, f0, t0, ep0, sq0, bd0, u0⟩ := last
    obtain ⟨k2, f2, t2, ep2, sq2, bd2, u2⟩ := pk
    simp -implicitDefEqProofs only [law11_both_do.j3, X, optM]
    rw [hA]
    simp -implicitDefEqProofs only [Option.bind_some]
    rw [hB]
    have hpk := pk_eq (k2, f2, t2, ep2, sq2, bd2, u2)
    simp only at hpk
    simp -implicitDefEqProofs only [Option.bind_some, mB, decide_true, cond_true, bbeq_self, hpk]
  cases own
  · simp -implicitDefEqProofs only [law11_both_do.f, decide_true, cond_true, show decide ((4 : Int) = 0) = false from rfl, show decide ((4 : Int) = 1) = false from rfl, show decide ((4 : Int) = 2) = false from rfl, show decide ((4 : Int) = 3) = false from rfl, cond_false]
    exact key
  · simp -implicitDefEqProofs only [law11_both_do.f, decide_true, cond_true, show decide ((4 : Int) = 0) = false from rfl, show decide ((4 : Int) = 1) = false from rfl, show decide ((4 : Int) = 2) = false from rfl, show decide ((4 : Int) = 3) = false from rfl, cond_false]
    exact key
theorem do_reply (n : Nat) (q : Q) (l : List Dpast) (last : DPacket) (s : List Int) (now : Int) (p : DPacket) (c : Int) (own : Bool) (hl3 : l.length = 3) (hp0 : ∀ e ∈ l, Past e) (hc : 0 ≤ c) :
    ∃ l', l'.length = 3 ∧ (∀ e ∈ l', Past e) ∧ law11_both_do.f n (X q l last) (5, s, now, p, c, own, ()) = some (X q l' last, true) := by
  obtain ⟨i, e, hi3, he, hm, hi⟩ := at_i hl3 c
  have hA := Reply_A n l i e c s hc hi hi3 he
  have hB := Reply_B n l i e c s hc hi hi3 he
  obtain ⟨h2, h3⟩ := replyO_inv (i := i) (c := c) (s := s) (hp0 e hm) hl3 hp0
  refine ⟨_, h2, h3, ?_⟩
  clear h2 h3
  generalize replyO l i e c s = o at hA hB ⊢
  obtain ⟨l', pk, er⟩ := o
  obtain ⟨k0, f0, t0, ep0, sq0, bd0, u0⟩ := last
  obtain ⟨k2, f2, t2, ep2, sq2, bd2, u2⟩ := pk
  simp -implicitDefEqProofs only [law11_both_do.f, X, optM, decide_true, cond_true, show decide ((5 : Int) = 0) = false from rfl, show decide ((5 : Int) = 1) = false from rfl, show decide ((5 : Int) = 2) = false from rfl, show decide ((5 : Int) = 3) = false from rfl, show decide ((5 : Int) = 4) = false from rfl, cond_false]
  rw [hA]
  simp -implicitDefEqProofs only [Option.bind_some]
  rw [hB]
  have hpk := pk_eq (k2, f2, t2, ep2, sq2, bd2, u2)
  simp only at hpk
  simp -implicitDefEqProofs only [Option.bind_some, decide_true, cond_true, hpk]
theorem do_other (n : Nat) (q : Q) (l : List Dpast) (last : DPacket) (k : Int) (s : List Int) (now : Int) (p : DPacket) (c : Int) (own : Bool) (h : k ≠ 0 ∧ k ≠ 1 ∧ k ≠ 2 ∧ k ≠ 3 ∧ k ≠ 4 ∧ k ≠ 5) :
    law11_both_do.f n (X q l last) (k, s, now, p, c, own, ()) = some (X q l last, true) := by
  obtain ⟨k0, f0, t0, ep0, sq0, bd0, u0⟩ := last
  simp -implicitDefEqProofs only [law11_both_do.f, X, decide_eq_false h.1, decide_eq_false h.2.1, decide_eq_false h.2.2.1, decide_eq_false h.2.2.2.1, decide_eq_false h.2.2.2.2.1, decide_eq_false h.2.2.2.2.2, cond_false]
theorem do_run (n : Nat) (q : Q) (l : List Dpast) (last : DPacket) (x : DDeed) (I : Inv2 q l last) (hx : DeedOk x) : ∃ q' l' last', Inv2 q' l' last' ∧ q'.1 ≤ q.1 + 1 ∧ law11_both_do.f n (X q l last) x = some (X q' l' last', true) := by
  obtain ⟨k, s, now, p, c, own, u⟩ := x
  obtain ⟨hp, hc⟩ := hx
  simp only at hp hc
  by_cases h0 : k = 0
  · subst h0; exact ⟨_, _, _, ⟨I.len, I.last, callO_seq I.seq s, I.past⟩, callO_few I.seq s, do_call n q l last s now p c own⟩
  by_cases h1 : k = 1
  · subst h1
    obtain ⟨i1, i2⟩ := tickO_inv I.seq now
    exact ⟨_, _, _, ⟨I.len, by cases (tickO q now).2.2; exact I.last; exact i2, i1, I.past⟩, by rw [tickO_few]; omega, do_tick n q l last s now p c own⟩
  by_cases h2 : k = 2
  · subst h2; exact ⟨_, _, _, ⟨I.len, I.last, takeO_seq I.seq _, I.past⟩, by rw [takeO_few]; omega, do_take n q l last s now p c own I.last hp⟩
  by_cases h3 : k = 3
  · subst h3; exact ⟨_, _, _, ⟨I.len, I.last, canO_seq I.seq, I.past⟩, by rw [canO_few]; omega, do_cancel n q l last s now p c own⟩
  by_cases h4 : k = 4
  · subst h4
    obtain ⟨l', k1, k2, k3⟩ := do_stake n q l last s now p c own I.len I.past I.last hp
    exact ⟨q, l', last, ⟨k1, I.last, I.seq, k2⟩, by omega, k3⟩
  by_cases h5 : k = 5
  · subst h5
    obtain ⟨l', k1, k2, k3⟩ := do_reply n q l last s now p c own I.len I.past hc
    exact ⟨q, l', last, ⟨k1, I.last, I.seq, k2⟩, by omega, k3⟩
  · exact ⟨q, l, last, I, by omega, do_other n q l last k s now p c own ⟨h0, h1, h2, h3, h4, h5⟩⟩
def q0 : Q := (0, [], false, 0, 0)
def l0 : List Dpast := [z0, z0, z0]
theorem u0 : U32 0 := ⟨by decide, by decide⟩
theorem inv0 : Inv2 q0 l0 zeroP := ⟨rfl, zeroP_pk, u0, fun e he => by
  simp only [l0, List.mem_cons, List.not_mem_nil, or_false, or_self] at he
  subst he
  exact ⟨.inl rfl, u0, u0, by simp [z0]⟩⟩
theorem play_loop (n : Nat) (ds : List DDeed) (hd : ∀ x ∈ ds, DeedOk x) : ∀ (k i : Nat) (q : Q) (l : List Dpast) (last : DPacket), Inv2 q l last → q.1 ≤ i → i ≤ 60 → 60 - i < k → ∃ q' l' last', Inv2 q' l' last' ∧ q'.1 ≤ 60 ∧ law11_play.l2 n k ds (X q l last) (i : Int) = some (some (X q' l' last'))
  | 0, i, q, l, last, _, _, _, h => by omega
  | k + 1, i, q, l, last, I, hq, hi, h => by
    rw [law11_play.l2]
    by_cases hlt : i < ds.length ∧ i < 60
    · have hg : ds[i]? = some ds[i] := List.getElem?_eq_getElem hlt.1
      have hm : ds[i] ∈ ds := List.getElem_mem hlt.1
      generalize ds[i] = x at hg hm
      rw [decide_eq_true (show (i : Int) < (ds.length : Int) by omega), decide_eq_true (show (i : Int) < 60 by omega)]
      simp only [cond_true, Option.bind_some]
      rw [idxK_at (e := x) (by omega) (by simpa using hg)]
      obtain ⟨q1, l1, last1, I1, hq1, h1⟩ := do_run n q l last x I (hd x hm)
      obtain ⟨q', l', last', I', hq', h2⟩ := play_loop n ds hd k (i + 1) q1 l1 last1 I1 (by omega) (by omega) (by omega)
      refine ⟨q', l', last', I', hq', ?_⟩
      have h1' : law11_both_do.f n ((X q l last).1, (X q l last).2.1, (X q l last).2.2.1, (X q l last).2.2.2.1, ((X q l last).2.2.2.2.1.1, (X q l last).2.2.2.2.1.2.1, (X q l last).2.2.2.2.1.2.2.1, (X q l last).2.2.2.2.1.2.2.2.1, (X q l last).2.2.2.2.1.2.2.2.2.1, (X q l last).2.2.2.2.1.2.2.2.2.2.1, (X q l last).2.2.2.2.1.2.2.2.2.2.2), (X q l last).2.2.2.2.2) (x.1, x.2.1, x.2.2.1, (x.2.2.2.1.1, x.2.2.2.1.2.1, x.2.2.2.1.2.2.1, x.2.2.2.1.2.2.2.1, x.2.2.2.1.2.2.2.2.1, x.2.2.2.1.2.2.2.2.2.1, x.2.2.2.1.2.2.2.2.2.2), x.2.2.2.2.1, x.2.2.2.2.2.1, x.2.2.2.2.2.2) = _ := h1
      rw [h1']
      simp only [Option.bind_some, Bool.not_true, cond_false, law11_play.j3]
      rw [i64_wrap (by omega) (by omega), show (i : Int) + 1 = ((i + 1 : Nat) : Int) by omega]
      exact h2
    · refine ⟨q, l, last, I, by omega, ?_⟩
      have : ((bif (decide ((i : Int) < (ds.length : Int))) then (some (decide ((i : Int) < (60 : Int)))) else some false) : Option Bool) = some false := by
        by_cases h1 : i < ds.length
        · rw [decide_eq_true (show (i : Int) < (ds.length : Int) by omega), decide_eq_false (show ¬ (i : Int) < 60 by omega)]; rfl
        · rw [decide_eq_false (show ¬ (i : Int) < (ds.length : Int) by omega)]; rfl
      rw [this]
      rfl
theorem play_run (n : Nat) (hn : 100 < n) (ds : List DDeed) (hd : ∀ x ∈ ds, DeedOk x) : ∃ q l last, Inv2 q l last ∧ q.1 ≤ 60 ∧ law11_play.f n ds = some (some (X q l last)) := by
  obtain ⟨q, l, last, I, hq, h⟩ := play_loop n ds hd n 0 q0 l0 zeroP inv0 (by decide) (by omega) (by omega)
  exact ⟨q, l, last, I, hq, h⟩
end Go.Proofs.Ytpkpihcdbgckkaa.S

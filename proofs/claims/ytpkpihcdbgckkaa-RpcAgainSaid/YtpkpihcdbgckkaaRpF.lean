/- A deed on both: they part never. -/
import Derived.Test.YtpkpihcdbgckkaaRpE
set_option linter.unusedVariables false
set_option linter.unusedSimpArgs false
namespace Go.Proofs.Ytpkpihcdbgckkaa.S
open Go Go.Proofs Go.Proofs.Bw

abbrev DBoth : Type := (Option DCaller) × (Option DCaller') × (Option DCallee) × (Option DCallee') × DPacket × Unit
def X (q : Q) (l : List Dpast) (last : DPacket) : DBoth := (some (cA q), some (cB q), some (l, ()), some (z0 :: l, ()), last, ())
def U32 (x : Int) : Prop := 0 ≤ x ∧ x < 4294967296
def Pk (p : DPacket) : Prop := 0 ≤ p.2.1 ∧ 0 ≤ p.2.2.1 ∧ U32 p.2.2.2.1 ∧ U32 p.2.2.2.2.1
theorem Pk.nn {p : DPacket} (h : Pk p) : Nn p := ⟨h.1, h.2.1, h.2.2.2.1⟩
def Past (e : Dpast) : Prop := (e.1 = 0 ∨ e.1 = 1 ∨ e.1 = 2) ∧ U32 e.2.1 ∧ U32 e.2.2.1 ∧ e.2.2.2.1.length ≤ 16384
structure Inv2 (q : Q) (l : List Dpast) (last : DPacket) : Prop where
  len : l.length = 3
  last : Pk last
  seq : U32 q.1
  past : ∀ e ∈ l, Past e
def DeedOk (x : DDeed) : Prop := Pk x.2.2.2.1 ∧ 0 ≤ x.2.2.2.2.1
theorem Past.set {l : List Dpast} (h : ∀ e ∈ l, Past e) {i : Nat} {x : Dpast} (hx : Past x) : ∀ e ∈ l.set i x, Past e := fun e he => by
  rcases List.mem_or_eq_of_mem_set he with he | rfl
  · exact h e he
  · exact hx
theorem at_i {l : List Dpast} (hl : l.length = 3) (c : Int) : ∃ (i : Nat) (e : Dpast), i < 3 ∧ l[i]? = some e ∧ e ∈ l ∧ (1 ≤ c → c ≤ 3 → c = (i : Int) + 1) := by
  by_cases hc : 1 ≤ c ∧ c ≤ 3
  · have hi : (c - 1).toNat < l.length := by omega
    exact ⟨(c - 1).toNat, l[(c - 1).toNat], by omega, List.getElem?_eq_getElem hi, List.getElem_mem hi, fun _ _ => by omega⟩
  · have hi : 0 < l.length := by omega
    exact ⟨0, l[0], by omega, List.getElem?_eq_getElem hi, List.getElem_mem hi, fun h1 h2 => (hc ⟨h1, h2⟩).elim⟩
theorem right_range {p : DPacket} (h : rightB p = true) (h1 : p.1 = 1) : 1 ≤ p.2.1 ∧ p.2.1 ≤ 3 := by
  simp only [rightB, Bool.and_eq_true, Bool.or_eq_true, decide_eq_true_eq] at h
  omega
theorem callO_seq {q : Q} (h : U32 q.1) (s : List Int) : U32 (callO q s).1.1 := by
  unfold callO
  repeat' split
  · exact h
  · exact h
  · exact h
  · show U32 (IntKind.u32.wrap (q.1 + 1))
    rw [u32_wrap]
    exact ⟨by omega, by omega⟩
theorem callO_few {q : Q} (h : U32 q.1) (s : List Int) : (callO q s).1.1 ≤ q.1 + 1 := by
  unfold callO
  repeat' split
  · show q.1 ≤ q.1 + 1; omega
  · show q.1 ≤ q.1 + 1; omega
  · show q.1 ≤ q.1 + 1; omega
  · show IntKind.u32.wrap (q.1 + 1) ≤ q.1 + 1
    rw [u32_wrap]
    have := h.1
    omega
theorem tickO_few (q : Q) (now : Int) : (tickO q now).1.1 = q.1 := by
  unfold tickO; split <;> rfl
theorem takeO_few (q : Q) (p : DPacket) : (takeO q p).1.1 = q.1 := by
  unfold takeO; split <;> rfl
theorem canO_few (q : Q) : (canO q).1.1 = q.1 := by
  unfold canO; split <;> rfl
theorem zeroP_pk : Pk zeroP := by unfold Pk U32 zeroP; decide
theorem tickO_inv {q : Q} (h : U32 q.1) (now : Int) : U32 (tickO q now).1.1 ∧ Pk (tickO q now).2.1 := by
  unfold tickO
  by_cases h1 : q.2.2.1 = false ∨ (0 < q.2.2.2.1 ∧ (now < q.2.2.2.2 ∨ IntKind.u64.wrap (now - q.2.2.2.2) < 4))
  · rw [if_pos h1]; exact ⟨h, zeroP_pk⟩
  · rw [if_neg h1]; exact ⟨h, show (0 : Int) ≤ 2 by decide, show (0 : Int) ≤ 0 by decide, ⟨show (0 : Int) ≤ 3 by decide, show (3 : Int) < 4294967296 by decide⟩, h⟩
theorem takeO_seq {q : Q} (h : U32 q.1) (p : DPacket) : U32 (takeO q p).1.1 := by
  unfold takeO; split <;> exact h
theorem canO_seq {q : Q} (h : U32 q.1) : U32 (canO q).1.1 := by
  unfold canO; split <;> exact h
theorem takeC_inv {l : List Dpast} {i : Nat} {e : Dpast} {p : DPacket} (hp : Pk p) (hl : l.length = 3) (h : ∀ e ∈ l, Past e) : ∃ l', (takeC l i e p).1 = some (l', ()) ∧ l'.length = 3 ∧ ∀ e ∈ l', Past e := by
  unfold takeC
  repeat' split
  · exact ⟨_, rfl, by simp [hl], Past.set h ⟨.inr (.inl rfl), hp.2.2.1, hp.2.2.2, by simp⟩⟩
  · exact ⟨l, rfl, hl, h⟩
  · exact ⟨l, rfl, hl, h⟩
  · exact ⟨l, rfl, hl, h⟩
theorem replyO_inv {l : List Dpast} {i : Nat} {e : Dpast} {c : Int} {s : List Int} (he : Past e) (hl : l.length = 3) (h : ∀ e ∈ l, Past e) : (replyO l i e c s).1.length = 3 ∧ ∀ x ∈ (replyO l i e c s).1, Past x := by
  unfold replyO
  by_cases h1 : c < 1 ∨ 3 < c
  · rw [if_pos h1]; exact ⟨hl, h⟩
  · rw [if_neg h1]
    by_cases h2 : e.1 ≠ 1
    · rw [if_pos h2]; exact ⟨hl, h⟩
    · rw [if_neg h2]
      by_cases h3 : (16384 : Int) < s.length
      · rw [if_pos h3]; exact ⟨hl, h⟩
      · rw [if_neg h3]
        exact ⟨by simp [hl], Past.set h ⟨.inr (.inr rfl), he.2.1, he.2.2.1, by show s.length ≤ 16384; omega⟩⟩
theorem pk_eq (x : DPacket) : (eqI x.1 x.1 && (eqI x.2.1 x.2.1 && (eqI x.2.2.1 x.2.2.1 && (eqI x.2.2.2.1 x.2.2.2.1 && (eqI x.2.2.2.2.1 x.2.2.2.2.1 && (eqS x.2.2.2.2.2.1 x.2.2.2.2.2.1 && true)))))) = true := by simp [eqI, eqS]
theorem bbeq_self (b : Bool) : bbeq b b = true := by cases b <;> rfl
theorem do_call (n : Nat) (q : Q) (l : List Dpast) (last : DPacket) (s : List Int) (now : Int) (p : DPacket) (c : Int) (own : Bool) :
    law11_both_do.f n (X q l last) (0, s, now, p, c, own, ()) = some (X (callO q s).1 l last, true) := by
  have hA := Call_A n q s
  have hB := Call_B n q s
  generalize callO q s = o at hA hB ⊢
  obtain ⟨⟨a, b, c1, d, e⟩, er⟩ := o
  obtain ⟨k0, f0, t0, ep0, sq0, bd0, u0⟩ := last
  simp -implicitDefEqProofs only [law11_both_do.f, X, optM, decide_true, cond_true]
  have hA' : rpc_Caller_Call.f n (some (((cA q).1.1, (cA q).1.2.1, (cA q).1.2.2.1, (cA q).1.2.2.2.1, (cA q).1.2.2.2.2.1, (cA q).1.2.2.2.2.2.1, (cA q).1.2.2.2.2.2.2), (cA q).2.1, (cA q).2.2.1, (cA q).2.2.2.1, (cA q).2.2.2.2)) s = _ := hA
  have hB' : r11_Caller_Call.f n (some ((cB q).1, (cB q).2.1, (cB q).2.2.1, (cB q).2.2.2.1, (cB q).2.2.2.2.1, (cB q).2.2.2.2.2.1, (cB q).2.2.2.2.2.2.1, (cB q).2.2.2.2.2.2.2)) s = _ := hB
  rw [hA']
  simp -implicitDefEqProofs only [Option.bind_some]
  rw [hB']
  simp -implicitDefEqProofs only [Option.bind_some, decide_true]
theorem do_tick (n : Nat) (q : Q) (l : List Dpast) (last : DPacket) (s : List Int) (now : Int) (p : DPacket) (c : Int) (own : Bool) :
    law11_both_do.f n (X q l last) (1, s, now, p, c, own, ()) = some (X (tickO q now).1 l (bif (tickO q now).2.2 then (tickO q now).2.1 else last), true) := by
  have hA := Tick_A n q now
  have hB := Tick_B n q now
  generalize tickO q now = o at hA hB ⊢
  obtain ⟨⟨a, b, c1, d, e⟩, pk, ok⟩ := o
  obtain ⟨k0, f0, t0, ep0, sq0, bd0, u0⟩ := last
  obtain ⟨k1, f1, t1, ep1, sq1, bd1, u1⟩ := pk
  simp -implicitDefEqProofs only [law11_both_do.f, X, optM, decide_true, cond_true, show decide ((1 : Int) = 0) = false from rfl, cond_false]
  have hA' : rpc_Caller_Tick.f n (some (((cA q).1.1, (cA q).1.2.1, (cA q).1.2.2.1, (cA q).1.2.2.2.1, (cA q).1.2.2.2.2.1, (cA q).1.2.2.2.2.2.1, (cA q).1.2.2.2.2.2.2), (cA q).2.1, (cA q).2.2.1, (cA q).2.2.2.1, (cA q).2.2.2.2)) now = _ := hA
  have hB' : r11_Caller_Tick.f n (some ((cB q).1, (cB q).2.1, (cB q).2.2.1, (cB q).2.2.2.1, (cB q).2.2.2.2.1, (cB q).2.2.2.2.2.1, (cB q).2.2.2.2.2.2.1, (cB q).2.2.2.2.2.2.2)) now = _ := hB
  rw [hA']
  simp -implicitDefEqProofs only [Option.bind_some]
  rw [hB']
  simp -implicitDefEqProofs only [Option.bind_some, law11_both_do.j1]
  have hpk := pk_eq (k1, f1, t1, ep1, sq1, bd1, u1)
  simp only at hpk
  cases ok
  · simp -implicitDefEqProofs only [hpk, cond_true, cond_false, Option.bind_some, bbeq_self]
  · simp -implicitDefEqProofs only [hpk, cond_true, cond_false, Option.bind_some, bbeq_self]
theorem do_cancel (n : Nat) (q : Q) (l : List Dpast) (last : DPacket) (s : List Int) (now : Int) (p : DPacket) (c : Int) (own : Bool) :
    law11_both_do.f n (X q l last) (3, s, now, p, c, own, ()) = some (X (canO q).1 l last, true) := by
  have hA := Cancel_A n q
  have hB := Cancel_B n q
  generalize canO q = o at hA hB ⊢
  obtain ⟨⟨a, b, c1, d, e⟩, er⟩ := o
  obtain ⟨k0, f0, t0, ep0, sq0, bd0, u0⟩ := last
  simp -implicitDefEqProofs only [law11_both_do.f, X, optM, decide_true, cond_true, show decide ((3 : Int) = 0) = false from rfl, show decide ((3 : Int) = 1) = false from rfl, show decide ((3 : Int) = 2) = false from rfl, cond_false]
  have hA' : rpc_Caller_Cancel.f n (some (((cA q).1.1, (cA q).1.2.1, (cA q).1.2.2.1, (cA q).1.2.2.2.1, (cA q).1.2.2.2.2.1, (cA q).1.2.2.2.2.2.1, (cA q).1.2.2.2.2.2.2), (cA q).2.1, (cA q).2.2.1, (cA q).2.2.2.1, (cA q).2.2.2.2)) = _ := hA
  have hB' : r11_Caller_Cancel.f n (some ((cB q).1, (cB q).2.1, (cB q).2.2.1, (cB q).2.2.2.1, (cB q).2.2.2.2.1, (cB q).2.2.2.2.2.1, (cB q).2.2.2.2.2.2.1, (cB q).2.2.2.2.2.2.2)) = _ := hB
  rw [hA']
  simp -implicitDefEqProofs only [Option.bind_some]
  rw [hB']
  simp -implicitDefEqProofs only [Option.bind_some, decide_true]
def own2 (own : Bool) (last : DPacket) (s : List Int) (p : DPacket) : DPacket := bif own then (2, 0, 2, last.2.2.2.1, last.2.2.2.2.1, s, ()) else p
theorem do_take (n : Nat) (q : Q) (l : List Dpast) (last : DPacket) (s : List Int) (now : Int) (p : DPacket) (c : Int) (own : Bool) (hl : Pk last) (hp : Pk p) :
    law11_both_do.f n (X q l last) (2, s, now, p, c, own, ()) = some (X (takeO q (own2 own last s p)).1 l last, true) := by
  have hw : Nn (own2 own last s p) := by
    cases own
    · exact hp.nn
    · exact ⟨show (0 : Int) ≤ 0 by decide, show (0 : Int) ≤ 2 by decide, hl.2.2.2.1⟩
  have hA := CTake_A n q (own2 own last s p)
  have hB := CTake_B n q (own2 own last s p) hw
  generalize hO : takeO q (own2 own last s p) = o at hA hB ⊢
  obtain ⟨⟨a, b, c1, d, e⟩, bd, ok⟩ := o
  have key : law11_both_do.j2 n (X q l last) (own2 own last s p) = some (X (a, b, c1, d, e) l last, true) := by
    generalize own2 own last s p = pp at hA hB
    obtain ⟨k1, f1, t1, ep1, sq1, bd1, u1⟩ := pp
    obtain ⟨k0, f0, t0, ep0, sq0, bd0, u0⟩ := last
    simp -implicitDefEqProofs only [law11_both_do.j2, X, optM]
    have hA' : rpc_Caller_Take.f n (some (((cA q).1.1, (cA q).1.2.1, (cA q).1.2.2.1, (cA q).1.2.2.2.1, (cA q).1.2.2.2.2.1, (cA q).1.2.2.2.2.2.1, (cA q).1.2.2.2.2.2.2), (cA q).2.1, (cA q).2.2.1, (cA q).2.2.2.1, (cA q).2.2.2.2)) (k1, f1, t1, ep1, sq1, bd1, u1) = _ := hA
    have hB' : r11_Caller_Take.f n (some ((cB q).1, (cB q).2.1, (cB q).2.2.1, (cB q).2.2.2.1, (cB q).2.2.2.2.1, (cB q).2.2.2.2.2.1, (cB q).2.2.2.2.2.2.1, (cB q).2.2.2.2.2.2.2)) (k1, f1, t1, ep1, sq1, bd1, u1) = _ := hB
    rw [hA']
    simp -implicitDefEqProofs only [Option.bind_some]
    rw [hB']
    simp -implicitDefEqProofs only [Option.bind_some, decide_true, cond_true, bbeq_self]
  cases own
  · simp -implicitDefEqProofs only [law11_both_do.f, decide_true, cond_true, show decide ((2 : Int) = 0) = false from rfl, show decide ((2 : Int) = 1) = false from rfl, cond_false]
    exact key
  · simp -implicitDefEqProofs only [law11_both_do.f, decide_true, cond_true, show decide ((2 : Int) = 0) = false from rfl, show decide ((2 : Int) = 1) = false from rfl, cond_false]
    exact key
end Go.Proofs.Ytpkpihcdbgckkaa.S

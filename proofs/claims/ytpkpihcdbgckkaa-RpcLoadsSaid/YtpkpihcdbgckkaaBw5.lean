/- The library of this work, part 5: an evaluator of annotated code, and that what it answers is what the machine does. No conditions. -/
import Derived.Test.YtpkpihcdbgckkaaBw4
import Derived.Laws.StructEq
import Derived.ChangeArms
import Derived.ChangeShapes
import Derived.DataReads
import Derived.WideShapes
import Derived.Below
import Derived.Lib.Bytealg
set_option linter.unusedVariables false
set_option linter.unusedSimpArgs false
set_option linter.unnecessarySimpa false
namespace Go.Proofs.Bw
open Go

theorem beq_refl_ba (s : ByteArray) : (s == s) = true := by obtain ⟨⟨x⟩⟩ := s; show ((⟨x⟩ : Array UInt8) == ⟨x⟩) = true; simp
theorem keyT_eqable : ∀ {T : Ty}, keyT T = true → T.eqable = true := by
  intro T
  induction T with
  | pair a b iha ihb => intro h; simp only [keyT, Bool.and_eq_true] at h; simp only [Ty.eqable, Bool.and_eq_true]; exact ⟨iha h.1, ihb h.2⟩
  | _ => intro h; first | rfl | (simp [keyT] at h; done)
theorem keyT_pure : ∀ {T : Ty}, keyT T = true → T.pure = true := by
  intro T
  induction T with
  | pair a b iha ihb => intro h; simp only [keyT, Bool.and_eq_true] at h; simp only [Ty.pure, Bool.and_eq_true]; exact ⟨iha h.1, ihb h.2⟩
  | _ => intro h; first | rfl | (simp [keyT] at h; done)
/-- keys are the same when their cells are -/
theorem key_cells {σ σ' : Sg} {h h' : Hp} : ∀ {T : Ty} {x y : T.den} {c d : List Value} {p q : Tag}, keyT T = true → Rel σ h T false x c p → Rel σ' h' T false y d q → (eqv T x y = true ↔ c = d) := by
  intro T
  induction T with
  | int k =>
    intro x y c d p q _ hx hy
    simp only [Rel] at hx hy
    rw [hx.1, hy.1]
    obtain ⟨x', rfl⟩ : ∃ x' : Int, x' = x := ⟨x, rfl⟩
    obtain ⟨y', rfl⟩ : ∃ y' : Int, y' = y := ⟨y, rfl⟩
    simp [eqv, eqI]
  | bool =>
    intro x y c d p q _ hx hy
    simp only [Rel] at hx hy
    rw [hx, hy]
    obtain ⟨x', rfl⟩ : ∃ x' : Bool, x' = x := ⟨x, rfl⟩
    obtain ⟨y', rfl⟩ : ∃ y' : Bool, y' = y := ⟨y, rfl⟩
    cases x' <;> cases y' <;> simp [eqv, bbeq]
  | str =>
    intro x y c d p q _ hx hy
    simp only [Rel] at hx hy
    obtain ⟨s, rfl, hs, _⟩ := hx
    obtain ⟨t, rfl, ht, _⟩ := hy
    have : eqv Ty.str x y = decide (ints s = ints t) := by rw [hs, ht]; rfl
    rw [this]
    simp only [decide_eq_true_eq, List.cons.injEq, Value.string.injEq, and_true]
    exact ⟨ints_inj, fun e => by rw [e]⟩
  | unit =>
    intro x y c d p q _ hx hy
    simp only [Rel] at hx hy
    rw [hx, hy]
    simp [eqv]
  | pair a b iha ihb =>
    intro x y c d p q hk hx hy
    simp only [keyT, Bool.and_eq_true] at hk
    simp only [Rel] at hx hy
    obtain ⟨c1, c2, rfl, hx1, hx2⟩ := hx
    obtain ⟨d1, d2, rfl, hy1, hy2⟩ := hy
    simp only [eqv, Bool.and_eq_true, iha hk.1 hx1 hy1, ihb hk.2 hx2 hy2]
    constructor
    · rintro ⟨rfl, rfl⟩; rfl
    · intro e
      exact List.append_inj e (by rw [hx1.length, hy1.length])
  | _ => intro x y c d p q hk; simp [keyT] at hk
theorem key_scalars {σ : Sg} {h : Hp} : ∀ {T : Ty} {x : T.den} {c : List Value} {p : Tag}, keyT T = true → Rel σ h T false x c p → ∀ v ∈ c, ∀ n, Instr.sameBits n v v = true := by
  intro T
  induction T with
  | int k => intro x c p _ hx v hv n; simp only [Rel] at hx; rw [hx.1] at hv; simp only [List.mem_singleton] at hv; subst hv; obtain ⟨z, rfl⟩ : ∃ z : Int, z = x := ⟨x, rfl⟩; cases n <;> simp [Instr.sameBits]
  | bool => intro x c p _ hx v hv n; simp only [Rel] at hx; rw [hx] at hv; simp only [List.mem_singleton] at hv; subst hv; obtain ⟨z, rfl⟩ : ∃ z : Bool, z = x := ⟨x, rfl⟩; cases n <;> simp [Instr.sameBits]
  | str => intro x c p _ hx v hv n; simp only [Rel] at hx; obtain ⟨s, rfl, _⟩ := hx; simp only [List.mem_singleton] at hv; subst hv; cases n <;> simp only [Instr.sameBits, beq_refl_ba]
  | unit => intro x c p _ hx v hv; simp only [Rel] at hx; rw [hx] at hv; cases hv
  | pair a b iha ihb =>
    intro x c p hk hx v hv n
    simp only [keyT, Bool.and_eq_true] at hk
    simp only [Rel] at hx
    obtain ⟨c1, c2, rfl, hx1, hx2⟩ := hx
    rcases List.mem_append.1 hv with hv | hv
    · exact iha hk.1 hx1 v hv n
    · exact ihb hk.2 hx2 v hv n
  | _ => intro x c p hk; simp [keyT] at hk
theorem key_val {σ : Sg} {h : Hp} {T : Ty} {x y : T.den} {v u : Value} {p q : Tag} (hk : keyT T = true) (hx : VRel σ h T x v p) (hy : VRel σ h T y u q) : eqv T x y = true ↔ v = u := by
  obtain ⟨c, w1, r1⟩ := hx
  obtain ⟨d, w2, r2⟩ := hy
  rw [key_cells hk r1 r2]
  cases hg : T.agg with
  | true =>
    rw [hg] at w1 w2
    have e1 : v = .agg ⟨c⟩ := w1
    have e2 : u = .agg ⟨d⟩ := w2
    rw [e1, e2]
    simp
  | false =>
    rw [hg] at w1 w2
    have e1 : c = [v] := w1
    have e2 : d = [u] := w2
    rw [e1, e2]
    simp
theorem key_stays {P : Program} {w : World} {σ : Sg} {h : Hp} {T : Ty} {x : T.den} {v : Value} {p : Tag} (hk : keyT T = true) (hx : VRel σ h T x v p) : (Instr.keyThatStays v v).run P w = .ok v w := by
  obtain ⟨c, w1, r1⟩ := hx
  have hs : Instr.sameBits 10000 v v = true := by
    cases hg : T.agg with
    | true =>
      rw [hg] at w1
      have e1 : v = .agg ⟨c⟩ := w1
      subst e1
      show Instr.sameBits (9999 + 1) _ _ = true
      simp only [Instr.sameBits, beq_self_eq_true, Bool.true_and, List.all_eq_true]
      intro q hq
      obtain ⟨i, hi, e⟩ := List.getElem_of_mem hq
      rw [List.getElem_zip] at e
      rw [← e]
      exact key_scalars hk r1 _ (List.getElem_mem _) _
    | false =>
      rw [hg] at w1
      have e1 : c = [v] := w1
      subst e1
      exact key_scalars hk r1 v (by simp) _
  simp [Instr.keyThatStays, hs]
theorem check_key {P : Program} {tab : Tab} {hd : List Nat} (ht : TabOk P tab) (hF : EqFacts P hd) {σ : Sg} {h : Hp} (w : World) (em : Bool) :
    ∀ (T : Ty), keyT T = true →
      (∀ (t : Nat) (d : Nat), T.dep < d → lay tab hd T (.inl t) = true → ∀ {x : T.den} {v : Value} {p : Tag}, VRel σ h T x v p → (Instr.checkKey em d t v).run P w = .ok () w) ∧
      (∀ (fs : List Field) (off d : Nat), T.dep < d + 1 → lay tab hd T (.inr (fs, off)) = true → ∀ {x : T.den} {pre c : List Value} {p : Tag}, pre.length = off → Rel σ h T false x c p →
        (forIn fs PUnit.unit (fun f (_ : PUnit) => if f.name ≠ "_" then (do
            let y ← part f.type ⟨pre ++ c⟩ f.offset
            Instr.checkKey em d f.type y
            pure (ForInStep.yield PUnit.unit)) else pure (ForInStep.yield PUnit.unit)) : Sem PUnit).run P w = .ok PUnit.unit w) := by
  intro T
  induction T with
  | int k =>
    intro _
    refine ⟨fun t d hd' hl x v p hx => ?_, fun fs off d _ hl => by simp [lay] at hl⟩
    obtain ⟨d, rfl⟩ : ∃ e, d = e + 1 := ⟨d - 1, by omega⟩
    obtain ⟨rfl, _⟩ := VRel.int_eq hx
    simp only [lay] at hl
    split at hl
    · rename_i i hi
      simp only [Bool.and_eq_true] at hl
      have hu := (ht t i hi).1
      rw [descInt_eq hl.1] at hu
      simp [Instr.checkKey, run_underlying hu]
    · simp at hl
  | bool =>
    intro _
    refine ⟨fun t d hd' hl x v p hx => ?_, fun fs off d _ hl => by simp [lay] at hl⟩
    obtain ⟨d, rfl⟩ : ∃ e, d = e + 1 := ⟨d - 1, by omega⟩
    have := VRel.bool_eq hx
    subst this
    simp only [lay] at hl
    split at hl
    · rename_i i hi
      simp only [Bool.and_eq_true] at hl
      have hu := (ht t i hi).1
      rw [descBool_eq hl.1] at hu
      simp [Instr.checkKey, run_underlying hu]
    · simp at hl
  | str =>
    intro _
    refine ⟨fun t d hd' hl x v p hx => ?_, fun fs off d _ hl => by simp [lay] at hl⟩
    obtain ⟨d, rfl⟩ : ∃ e, d = e + 1 := ⟨d - 1, by omega⟩
    obtain ⟨s, rfl, _⟩ := VRel.str_eq hx
    simp only [lay] at hl
    split at hl
    · rename_i i hi
      simp only [Bool.and_eq_true] at hl
      have hu := (ht t i hi).1
      rw [descStr_eq hl.1] at hu
      simp [Instr.checkKey, run_underlying hu]
    · simp at hl
  | unit =>
    intro _
    refine ⟨fun t d hd' hl => by simp [lay] at hl, fun fs off d _ hl x pre c p h1 hx => ?_⟩
    cases fs with
    | nil => simp
    | cons f fs => simp [lay] at hl
  | pair a b iha ihb =>
    intro he
    simp only [keyT, Bool.and_eq_true] at he
    obtain ⟨iha1, _⟩ := iha he.1
    obtain ⟨_, ihb2⟩ := ihb he.2
    have key : ∀ (f : Field) (fs : List Field) (off d : Nat), a.dep < d → b.dep < d + 1 → (f.name != "_") = true → f.offset = off → lay tab hd a (.inl f.type) = true → lay tab hd b (.inr (fs, off + a.size)) = true →
        ∀ {x : (Ty.pair a b).den} {pre c : List Value} {p : Tag}, pre.length = off → Rel σ h (.pair a b) false x c p →
        (forIn (f :: fs) PUnit.unit (fun f (_ : PUnit) => if f.name ≠ "_" then (do
            let y ← part f.type ⟨pre ++ c⟩ f.offset
            Instr.checkKey em d f.type y
            pure (ForInStep.yield PUnit.unit)) else pure (ForInStep.yield PUnit.unit)) : Sem PUnit).run P w = .ok PUnit.unit w := by
      intro f fs off d h1 h2 hn ho hla hlb x pre c p hp hx
      obtain ⟨dd, j, hu, hi, hsz, hag⟩ := lay_row ht hla
      simp only [Rel] at hx
      obtain ⟨c1, c2, rfl, hx1, hx2⟩ := hx
      have hn' : f.name ≠ "_" := by simpa using hn
      have one : descAgg dd = true ∨ c1.length = 1 := by
        rw [hag]
        cases hg : a.agg with
        | true => exact .inl rfl
        | false => exact .inr (by rw [hx1.length, size_nonagg hg])
      have p1 := part_run (P := P) hu hi w (pre := pre) (cs := c1) (post := c2) (by rw [hx1.length, hsz]) one
      rw [hp, List.append_assoc, hag] at p1
      have p3 := iha1 f.type d h1 hla (VRel.of_rel hx1)
      have p4 := ihb2 fs (off + a.size) d h2 hlb (pre := pre ++ c1) (by rw [List.length_append, hp, hx1.length]) hx2
      simp only [List.append_assoc] at p4
      simp only [List.forIn_cons, Sem.run_bind, hn', ne_eq, not_false_eq_true, if_true, Result.andThen_ok, ho, p1, p3, Sem.run_pure]
      exact p4
    refine ⟨fun t d hd' hl x v p hx => ?_, fun fs off d hd' hl x pre c p h1 hx => ?_⟩
    · simp only [Ty.dep] at hd'
      obtain ⟨d, rfl⟩ : ∃ e, d = e + 1 := ⟨d - 1, by omega⟩
      simp only [lay] at hl
      split at hl
      · rename_i i hi
        split at hl
        · rename_i f fs hfs
          simp only [Bool.and_eq_true] at hl
          obtain ⟨⟨⟨⟨⟨g1, g2⟩, g3⟩, g4⟩, g5⟩, g6⟩ := hl
          have hu := (ht t i hi).1
          rw [descFs_eq hfs] at hu
          obtain ⟨c1, d1, rfl, hx1, hx2⟩ := VRel.pair_eq hx
          have := key f fs 0 d (by omega) (by omega) g2 (Nat.eq_of_beq_eq_true g3) g4 (by simpa using g5) (x := x) (pre := []) (c := c1 ++ d1) (p := p) rfl (by simp only [Rel]; exact ⟨c1, d1, rfl, hx1, hx2⟩)
          rw [Instr.checkKey]
          simp only [Sem.run_bind, run_underlying hu, Result.andThen_ok]
          rw [← Array.forIn_toList]
          simp only [List.nil_append] at this
          show (Sem.run P (forIn (f :: fs) PUnit.unit _) w).andThen _ = _
          rw [this]
          rfl
        · simp at hl
      · simp at hl
    · simp only [Ty.dep] at hd'
      cases fs with
      | nil => simp [lay] at hl
      | cons f fs =>
        simp only [lay, Bool.and_eq_true] at hl
        exact key f fs off d (by omega) (by omega) hl.1.1.1 (Nat.eq_of_beq_eq_true hl.1.1.2) hl.1.2 hl.2 h1 hx
  | _ => intro hk; simp [keyT] at hk

/-! looking up -/
theorem sameNow_ok {σ : Sg} {h : Hp} {T : Ty} (hk : keyT T = true) {x y : T.den} {v u : Value} {p q : Tag} (hx : VRel σ h T x v p) (hy : VRel σ h T y u q) {d : TypeDesc} {r : Bool} (hs : Instr.sameNow d v u = some r) : r = eqv T x y := by
  have hv := key_val hk hx hy
  have key : ∀ b : Bool, (b = true ↔ v = u) → b = eqv T x y := fun b hb => by
    rw [Bool.eq_iff_iff, hb, hv]
  apply key
  unfold Instr.sameNow at hs
  split at hs
  · split at hs
    · rename_i e
      injection hs with hs
      subst hs e
      simp
    · cases hs
  · injection hs with hs
    subst hs
    rename_i a b
    constructor
    · intro e
      have : a = b := by
        rw [beq_toListBytes] at e
        have := eq_of_beq e
        rw [ByteArray.toList_eq, ByteArray.toList_eq] at this
        obtain ⟨⟨x⟩⟩ := a
        obtain ⟨⟨y⟩⟩ := b
        simpa using this
      rw [this]
    · intro e
      injection e with e
      subst e
      exact beq_refl_ba _
  · injection hs with hs
    subst hs
    simp
  · cases hs
/-- what is found: nothing, or the first entry of that key -/
def Found (T : Ty) {β : Type} (x : T.den) (v : Value) (R : T.den → Value → Prop) (S : β → Value → Prop) (xs : List (T.den × β)) (es : List MapEntry) (i : Nat) (r : Option (Nat × Value)) : Prop :=
  (mapGet T x xs = none ∧ r = none ∧ ∀ z u n, S z u → EMap R S (mapSet T x z xs) (es ++ [⟨v, u, n⟩])) ∨
  (∃ (j : Nat) (e : MapEntry) (d : β), mapGet T x xs = some d ∧ r = some (i + j, e.val) ∧ es[j]? = some e ∧ e.key = v ∧ S d e.val ∧ ∀ z u, S z u → EMap R S (mapSet T x z xs) (es.modify j fun e => { e with key := v, val := u }))
theorem Found.nil {T : Ty} {β : Type} {x : T.den} {v : Value} {R : T.den → Value → Prop} {S : β → Value → Prop} {i : Nat} (hR : R x v) : Found T x v R S [] [] i none :=
  .inl ⟨rfl, rfl, fun z u n hz => ⟨_, [], rfl, hR, hz, rfl⟩⟩
theorem Found.hit {T : Ty} {β : Type} {x : T.den} {v : Value} {R : T.den → Value → Prop} {S : β → Value → Prop} {i : Nat} {y : T.den × β} {xs : List (T.den × β)} {e : MapEntry} {es : List MapEntry} (hR : R x v) (he : eqv T x y.1 = true) (hk : e.key = v)
    (hs : S y.2 e.val) (hr : EMap R S xs es) : Found T x v R S (y :: xs) (e :: es) i (some (i, e.val)) :=
  .inr ⟨0, e, y.2, by simp [mapGet, he], rfl, rfl, hk, hs, fun z u hz => by simp only [mapSet, he, cond_true]; exact ⟨_, _, rfl, hR, hz, hr⟩⟩
theorem Found.miss {T : Ty} {β : Type} {x : T.den} {v : Value} {R : T.den → Value → Prop} {S : β → Value → Prop} {i : Nat} {y : T.den × β} {xs : List (T.den × β)} {e : MapEntry} {es : List MapEntry} {r : Option (Nat × Value)} (he : eqv T x y.1 = false)
    (h1 : R y.1 e.key) (h2 : S y.2 e.val) (hf : Found T x v R S xs es (i + 1) r) : Found T x v R S (y :: xs) (e :: es) i r := by
  rcases hf with ⟨g1, g2, g3⟩ | ⟨j, e', d, g1, g2, g3, g4, g5, g6⟩
  · exact .inl ⟨by simp [mapGet, he, g1], g2, fun z u n hz => by simp only [mapSet, he, cond_false]; exact ⟨_, _, rfl, h1, h2, g3 z u n hz⟩⟩
  · exact .inr ⟨j + 1, e', d, by simp [mapGet, he, g1], by rw [g2]; congr 2; omega, by simpa using g3, g4, g5, fun z u hz => by simp only [mapSet, he, cond_false]; exact ⟨_, _, rfl, h1, h2, g6 z u hz⟩⟩
section
variable {P : Program} {tab : Tab} {hd : List Nat} {σ : Sg} {h : Hp}
theorem find_now {T : Ty} {β : Type} (hk : keyT T = true) {x : T.den} {v : Value} {p tk : Tag} (hx : VRel σ h T x v p) {S : β → Value → Prop} {d : TypeDesc} :
    ∀ {xs : List (T.den × β)} {es : List MapEntry} {i : Nat} {r : Option (Nat × Value)}, EMap (fun y u => VRel σ h T y u tk) S xs es → Instr.findNow d v es i = some r → Found T x v (fun y u => VRel σ h T y u tk) S xs es i r
  | [], es, i, r, he, hf => by
    simp only [EMap] at he
    subst he
    simp only [Instr.findNow, Option.some.injEq] at hf
    subst hf
    exact .nil (hx.pure σ.le_refl (keyT_pure hk))
  | y :: xs, es, i, r, he, hf => by
    obtain ⟨e, es', rfl, h1, h2, h3⟩ := he
    simp only [Instr.findNow] at hf
    split at hf
    · rename_i hs
      injection hf with hf
      subst hf
      have := sameNow_ok hk hx h1 hs
      exact .hit (hx.pure σ.le_refl (keyT_pure hk)) this.symm ((key_val hk hx h1).1 this.symm).symm h2 h3
    · rename_i hs
      have := sameNow_ok hk hx h1 hs
      exact .miss this.symm h1 h2 (find_now hk hx h3 hf)
    · cases hf
theorem find_ask {T : Ty} {β : Type} (hk : keyT T = true) {x : T.den} {v : Value} {p tk : Tag} (hx : VRel σ h T x v p) {S : β → Value → Prop} {t : TypeId} {w : World} (hq : ∀ (y : T.den) (u : Value), VRel σ h T y u tk → (Op.equal t v u).run P w = .ok (eqv T x y) w) :
    ∀ {xs : List (T.den × β)} {es : List MapEntry} (i : Nat), EMap (fun y u => VRel σ h T y u tk) S xs es → ∃ r, (Instr.findAsking t v es i).run P w = .ok r w ∧ Found T x v (fun y u => VRel σ h T y u tk) S xs es i r
  | [], es, i, he => by
    simp only [EMap] at he
    subst he
    exact ⟨none, rfl, .nil (hx.pure σ.le_refl (keyT_pure hk))⟩
  | y :: xs, es, i, he => by
    obtain ⟨e, es', rfl, h1, h2, h3⟩ := he
    simp only [Instr.findAsking, Sem.run_bind, hq y.1 e.key h1, Result.andThen_ok]
    cases hb : eqv T x y.1 with
    | true => exact ⟨some (i, e.val), rfl, .hit (hx.pure σ.le_refl (keyT_pure hk)) hb ((key_val hk hx h1).1 hb).symm h2 h3⟩
    | false =>
      obtain ⟨r, g1, g2⟩ := find_ask hk hx hq (i + 1) h3
      exact ⟨r, g1, .miss hb h1 h2 g2⟩
theorem find_key {T : Ty} {β : Type} (ht : TabOk P tab) (hF : EqFacts P hd) (hk : keyT T = true) {t : TypeId} (hl : lay tab hd T (.inl t) = true) (hdep : T.dep < 9000) {x : T.den} {v : Value} {p tk : Tag} (hx : VRel σ h T x v p) {S : β → Value → Prop} (w : World)
    {xs : List (T.den × β)} {es : List MapEntry} (he : EMap (fun y u => VRel σ h T y u tk) S xs es) : ∃ r, (Instr.findKey t v es).run P w = .ok r w ∧ Found T x v (fun y u => VRel σ h T y u tk) S xs es 0 r := by
  obtain ⟨dd, j, hu, _⟩ := lay_row ht hl
  unfold Instr.findKey
  simp only [Sem.run_bind, run_underlying hu, Result.andThen_ok]
  cases hn : Instr.findNow dd v es 0 with
  | some r => exact ⟨r, rfl, find_now hk hx he hn⟩
  | none => exact find_ask hk hx (fun y u hy => (run_equal (P := P) ht hF (σ := σ) (h := h) w T (keyT_eqable hk)).1 t 10000 (by omega) hl hx hy) 0 he
end

section
variable {P : Program} {tab : Tab} {hd : List Nat} {R : Type} {σ : Sg} {h : Hp} {st : St} {a : Act} {w : World} {K : St → List Tag → Option R} {r : R} {o : Oper} {Q : Exit → Act → World → Prop}
theorem op_mkmap {d : Nat} {k v : Ty} {t : TypeId} (S : SRel σ h st a.tmps w) (hop : o.op = .makeMap t none) (hd : dstOk a.tmps.size o d = true)
    (hK : evOp st.get K (.mkmap d k v) = some r) : o.wp P a w (Post σ h w st K r a) Q := by
  simp only [evOp] at hK
  obtain ⟨hc, hK⟩ := bif_some hK
  simp only [Bool.and_eq_true] at hc
  have hcl : (Ty.map k v).closed = true := by simp [Ty.closed, keyT_pure hc.1, hc.2]
  obtain ⟨hf, hk⟩ := put_some hK
  obtain ⟨h1, h2⟩ := dstOk_eq hd
  have hrun : (execOp a.eval o).run P w = .ok (.value (.map (some w.heap.size))) { w with heap := w.heap.push (.map #[] 0) } := by
    unfold execOp
    rw [hop]
    simp [Instr.makeMap, newObj, Sem.run]
  unfold Oper.wp
  rw [hrun, Oper.upon_value, h1]
  have hw : ({ w with heap := w.heap.push (.map #[] 0) } : World).heap = w.heap.push (.map #[] 0) := rfl
  have hold : ∀ b blk', h b = some blk' → h.add w.heap.size (.obj (.map #[] 0) [d]) b = some blk' := fun b blk' hb => by
    unfold Hp.add; rw [if_neg (by have := S.inv.lt hb; omega)]; exact hb
  refine ⟨σ, h.add w.heap.size (.obj (.map #[] 0) [d]), _, _, hk, ⟨by simp, σ.le_refl, rfl, rfl, rfl, fun b hb hn => ⟨push_old hw hb, ?_, fun _ => rfl⟩⟩, ?_, rfl, by simp [Act.put]⟩
  · unfold Hp.add; rw [if_neg (by omega)]; exact hn
  · refine S.put hf h2 σ.le_refl (S.inv.addObj hw (fun b x hb => no_tag S hf hb)) hold (fun b blk' hb => ?_) ⟨[_], rfl, ?_⟩ (by exact hcl) (fun u hu => by cases hu)
    · unfold Hp.add at hb
      split at hb
      · injection hb with hb; subst hb; exact .inr ⟨[], rfl, rfl, hcl⟩
      · exact .inl hb
    · simp only [Rel]
      refine ⟨w.heap.size, [], 0, rfl, ?_, rfl⟩
      unfold Hp.add
      simp
/-- a slot's map -/
theorem map_slot (S : SRel σ h st a.tmps w) {s : Nat} {k v : Ty} {x : List (k.den × v.den)} (hs : st.get s = some ⟨.map k v, x⟩) : ∃ b es clock, a.tmps.getD s undef = .map (some b) ∧ h b = some (.obj (.map ⟨es⟩ clock) [s]) ∧
    EMap (fun y u => VRel σ h k y u ([s] ++ [7])) (fun y u => VRel σ h v y u ([s] ++ [8])) x es := by
  obtain ⟨_, cc, hw, hr⟩ := S.vals s _ hs
  simp only [Rel] at hr
  obtain ⟨b, es, clock, e1, e2, e3⟩ := hr
  have := slot_single rfl hw
  rw [this] at e1
  injection e1 with e1
  exact ⟨b, es, clock, e1, e2, e3⟩
theorem op_alsM {d s : Nat} {x : Operand} (S : SRel σ h st a.tmps w) (hop : o.op = .move x ∨ o.op = .assign x) (hd : dstOk a.tmps.size o d = true) (hx : opdOk (.t s) x = true)
    (hK : evOp st.get K (.alsM d s) = some r) : o.wp P a w (Post σ h w st K r a) Q := by
  have hev := opdT_eval (a := a) hx
  simp only [evOp] at hK
  split at hK
  · rename_i k v y hs
    obtain ⟨b, es, clock, e1, e2, _⟩ := map_slot S hs
    have hcl : (Ty.map k v).closed = true := S.typ s _ hs
    refine wp_put (v := ⟨.mref [s], ()⟩) S hd hK (val := a.tmps.getD s undef) (w' := w) ?_ rfl rfl rfl rfl ⟨[_], rfl, ?_⟩ rfl (fun u hu => ?_)
    · unfold execOp
      rcases hop with h1 | h1 <;> rw [h1, ← hev] <;> rfl
    · simp only [Rel]
      exact ⟨b, ⟨es⟩, clock, by rw [e1], e2⟩
    · injection hu with hu
      subst hu
      exact ⟨s, [], rfl, _, hs, rfl, hcl⟩
  · simp at hK
/-- the object that a slot owns alone is written -/
theorem SRel.setObj {tm : Array Value} (S : SRel σ h st tm w) {s b : Nat} {o0 o1 : Obj} {v v' : SV} (hv : st.get s = some v) (hb : h b = some (.obj o0 [s])) (hc : v'.T.closed = true) (hp : v'.T.pure = false)
    (hr : VRel σ (stO b (.obj o1 [s]) h) v'.T v'.x (tm.getD s undef) [s]) : Ext w σ h (putO w b o1) σ (stO b (.obj o1 [s]) h) ∧ SStep h st tm [(s, some v')] [[s]] σ (stO b (.obj o1 [s]) h) tm (putO w b o1) := by
  have gs : St.get [(s, some v')] s = some v' := by rw [get_cons, if_pos rfl]
  have hhas : ∀ k, hasS [(s, some v')] k = true → k = s := fun k hk => by
    simp only [hasS, Bool.or_false] at hk
    exact (beq_iff.1 hk).symm
  have hnot : ∀ k, hasS [(s, some v')] k = false → s ≠ k := fun k hk e => by
    subst e
    simp [hasS] at hk
  refine ⟨⟨by simp [putO], σ.le_refl, rfl, rfl, rfl, fun c hc hn => ⟨putO_other (fun e => by rw [e, hb] at hn; cases hn), by unfold stO; rw [if_neg (fun e => by rw [e, hb] at hn; cases hn)]; exact hn, fun _ => rfl⟩⟩, ?_⟩
  refine SRel.upd2 S _ _ σ.le_refl (S.inv.stO hb) ?_ ?_ ?_ ⟨rfl, fun k hk => rfl⟩ ?_
  · intro c x k q hcx ht hk
    have hne : c ≠ b := fun e => by
      subst e
      rw [hb] at hcx
      injection hcx with hcx
      subst hcx
      injection ht with ht _
      exact hnot k hk ht
    unfold stO; rw [if_neg hne]; exact hcx
  · intro c x hcx
    unfold stO at hcx
    split at hcx
    · injection hcx with hcx
      subst hcx
      exact ⟨s, [], rfl, fun _ => ⟨_, gs, hp, hc⟩, fun hk => by simp [hasS] at hk⟩
    · obtain ⟨k, q, e, ho⟩ := S.own c x hcx
      refine ⟨k, q, e, fun hk => ?_, fun _ => hcx⟩
      rw [hhas k hk]
      exact ⟨_, gs, hp, hc⟩
  · intro k x hk hx
    have := hhas k hk
    subst this
    rw [gs] at hx
    injection hx with hx
    subst hx
    exact ⟨(S.vals k _ hv).1, hr, .inl hc⟩
  · intro s' x k q hs' hns hlk hk hok hdead
    exfalso
    have := hhas k hk
    subst this
    rw [dead_of hlk (c := [k]) (by simp) isPre_single] at hdead; cases hdead
theorem mref_slot (S : SRel σ h st a.tmps w) {s i : Nat} (hi : st.get i = some ⟨.mref [s], ()⟩) : ∃ b es clock, a.tmps.getD i undef = .map (some b) ∧ h b = some (.obj (.map es clock) [s]) := by
  obtain ⟨_, cc, hw, hr⟩ := S.vals i _ hi
  simp only [Rel] at hr
  obtain ⟨b, es, clock, e1, e2⟩ := hr
  have := slot_single rfl hw
  rw [this] at e1
  injection e1 with e1
  exact ⟨b, es, clock, e1, e2⟩
theorem mrefK_some {i : Nat} {g : Nat → Option SV} {α : Type} {F : Nat → (k v : Ty) → List (k.den × v.den) → Option α} {r : α} (hK : mrefK g i F = some r) : ∃ s k v x u, g i = some ⟨.mref [s], u⟩ ∧ g s = some ⟨.map k v, x⟩ ∧ F s k v x = some r := by
  unfold mrefK at hK
  split at hK
  · rename_i s u hi
    split at hK
    · rename_i k v x hs
      exact ⟨s, k, v, x, u, hi, hs, hK⟩
    · cases hK
  · cases hK
theorem mapOk_ok (ht : TabOk P tab) {t : TypeId} {k : Ty} (hs : mapOk tab hd t k = true) : ∃ kt vt, P.underlying t = some (.map kt vt) ∧ lay tab hd k (.inl kt) = true ∧ keyT k = true ∧ k.dep < 9000 := by
  unfold mapOk at hs
  split at hs
  · rename_i i hi
    split at hs
    · rename_i kt vt hm
      simp only [Bool.and_eq_true, Nat.blt_eq] at hs
      have hu := (ht t i hi).1
      have : i.desc = .map kt vt := by
        cases hdd : i.desc <;> rw [hdd] at hm <;> simp [descMap] at hm
        rw [hm.1, hm.2]
      rw [this] at hu
      exact ⟨kt, vt, hu, hs.1.1, hs.1.2, hs.2⟩
    · cases hs
  · cases hs
theorem emap_pure {σ σ' : Sg} {h h' : Hp} (hσ : σ.le σ') {k v : Ty} (hk : k.pure = true) (hv : v.pure = true) {p q p' q' : Tag} : ∀ {xs : List (k.den × v.den)} {es : List MapEntry}, EMap (fun y u => VRel σ h k y u p) (fun y u => VRel σ h v y u q) xs es →
    EMap (fun y u => VRel σ' h' k y u p') (fun y u => VRel σ' h' v y u q') xs es
  | [], _, he => he
  | _ :: _, _, ⟨e, r, h0, h1, h2, h3⟩ => ⟨e, r, h0, h1.pure hσ hk, h2.pure hσ hv, emap_pure hσ hk hv h3⟩
theorem op_mset {i : Nat} {b c : Opd} {k v : Ty} {t : TypeId} {x y z : Operand} (ht : TabOk P tab) (hF : EqFacts P hd) (S : SRel σ h st a.tmps w) (hop : o.op = .mapUpdate t x y z) (hd0 : o.dst = none) (hx : opdOk (.t i) x = true) (hy : opdOk b y = true) (hz : opdOk c z = true)
    (hm : mapOk tab hd t k = true) (hK : evOp st.get K (.mset i b c k v) = some r) : o.wp P a w (Post σ h w st K r a) Q := by
  simp only [evOp] at hK
  obtain ⟨s, k', v', xs, u, hi, hs, hK2⟩ := mrefK_some hK
  clear hK
  have hK := hK2
  clear hK2
  cases hcc : (!(k'.beq k) || !(v'.beq v) || !v'.pure) with
  | true => rw [hcc] at hK; cases hK
  | false =>
    rw [hcc, cond_false] at hK
    simp only [Bool.or_eq_false_iff, Bool.not_eq_false'] at hcc
    obtain ⟨⟨hk', hv'⟩, hvp⟩ := hcc
    have e1 := Ty.eq_of_beq hk'
    have e2 := Ty.eq_of_beq hv'
    subst e1 e2
    obtain ⟨kt, vt, hu, hl, hkt, hdep⟩ := mapOk_ok ht hm
    split at hK
    case h_2 => cases hK
    rename_i yv zv hyv hzv
    obtain ⟨yT, yx⟩ := yv
    obtain ⟨zT, zx⟩ := zv
    split at hK
    case isFalse => cases hK
    rename_i hy1
    split at hK
    case isFalse => cases hK
    rename_i hz1
    have e1 := Ty.eq_of_beq hy1
    have e2 := Ty.eq_of_beq hz1
    simp only at e1 e2
    subst e1 e2
    obtain ⟨t1, ry⟩ := opd_rel S hy hyv
    obtain ⟨t2, rz⟩ := opd_rel S hz hzv
    obtain ⟨b1, es1, cl1, f1, f2⟩ := mref_slot S hi
    obtain ⟨bb, es, clock, f3, f4, f5⟩ := map_slot S hs
    have hbb : b1 = bb := S.inv.inj b1 bb _ _ f2 f4 rfl
    subst hbb
    have hheap := S.inv.maps b1 _ _ f4
    have hev := opdT_eval (a := a) hx
    have hobj : (getObj b1).run P w = .ok (.map ⟨es⟩ clock) w := by simp [getObj, Sem.run, hheap]
    have hck := (check_key (P := P) ht hF (σ := σ) (h := h) w false yT hkt).1 kt 10000 (by omega) hl ry
    obtain ⟨res, g1, g2⟩ := find_key (P := P) ht hF hkt hl hdep ry w f5
    have hcl : (Ty.map yT zT).closed = true := S.typ s _ hs
    have hcast1 : Ty.cast hy1 yx = yx := rfl
    have hcast2 : Ty.cast hz1 zx = zx := rfl
    rw [hcast1, hcast2] at hK
    have rz' : VRel σ h zT zx (a.eval z) ([s] ++ [8]) := rz.pure σ.le_refl hvp
    have fin : ∀ (es' : List MapEntry) (cl' : Nat), EMap (fun y u => VRel σ h yT y u ([s] ++ [7])) (fun y u => VRel σ h zT y u ([s] ++ [8])) (mapSet yT yx zx xs) es' →
        (execOp a.eval o).run P w = .ok .skip (putO w b1 (.map ⟨es'⟩ cl')) → o.wp P a w (Post σ h w st K r a) Q := fun es' cl' hem hrun => by
      obtain ⟨E, T⟩ := S.setObj (o1 := .map ⟨es'⟩ cl') (v' := ⟨.map yT zT, mapSet yT yx zx xs⟩) hs f4 hcl rfl ⟨[_], rfl, by
        simp only [Rel]
        refine ⟨b1, es', cl', by rw [f3], by unfold stO; rw [if_pos rfl], ?_⟩
        exact emap_pure σ.le_refl (keyT_pure hkt) hvp hem⟩
      unfold Oper.wp
      rw [hrun]
      refine ⟨σ, _, _, _, hK, E, by rw [hd0]; exact T, by rw [hd0]; rfl, by rw [hd0]; rfl⟩
    have hex : ∀ w', (Instr.mapUpdate t (.map (some b1)) (a.eval y) (a.eval z)).run P w = .ok () w' → (execOp a.eval o).run P w = .ok .skip w' := fun w' hh => by
      have e : execOp a.eval o = (do Instr.mapUpdate t (a.eval x) (a.eval y) (a.eval z); pure .skip) := by
        unfold execOp
        rw [hop]
      rw [e, hev, f1, Sem.run_bind, hh]
      rfl
    rcases g2 with ⟨q1, q2, q3⟩ | ⟨j, e, dd, q1, q2, q3, q4, q5, q6⟩
    · subst q2
      refine fin (es ++ [⟨a.eval y, a.eval z, clock⟩]) (clock + 1) (q3 zx _ _ rz') (hex _ ?_)
      simp only [Instr.mapUpdate, Sem.run_bind, run_underlying hu, Result.andThen_ok, hobj, hck, g1]
      simp [setObj, Sem.run, hheap, putO]
    · subst q2
      refine fin (es.modify j fun e => { e with key := a.eval y, val := a.eval z }) clock (q6 zx _ rz') (hex _ ?_)
      simp only [Instr.mapUpdate, Sem.run_bind, run_underlying hu, Result.andThen_ok, hobj, hck, g1]
      have hst := key_stays (P := P) (w := w) hkt ry
      have hget : ((es[0 + j]?).map (·.key)).getD (a.eval y) = a.eval y := by rw [Nat.zero_add, q3]; simp [q4]
      simp only [List.getElem?_toArray] 
      rw [hget]
      simp only [hst, Result.andThen_ok, Nat.zero_add]
      simp [setObj, Sem.run, hheap, putO]
theorem op_mget {d i : Nat} {b : Opd} {k : Ty} {z : SV} {t : TypeId} {x y : Operand} (ht : TabOk P tab) (hF : EqFacts P hd) (S : SRel σ h st a.tmps w) (hop : o.op = .lookup t x y false) (hd0 : dstOk a.tmps.size o d = true) (hx : opdOk (.t i) x = true) (hy : opdOk b y = true)
    (hm : mapOk tab hd t k = true) (hz : mzeroOk tab t z = true) (hK : evOp st.get K (.mget d i b k z) = some r) : o.wp P a w (Post σ h w st K r a) Q := by
  simp only [evOp] at hK
  obtain ⟨s, k', v', xs, u, hi, hs, hK2⟩ := mrefK_some hK
  clear hK
  have hK := hK2
  clear hK2
  cases hcc : (!(k'.beq k) || !v'.pure) with
  | true => rw [hcc] at hK; cases hK
  | false =>
    rw [hcc, cond_false] at hK
    simp only [Bool.or_eq_false_iff, Bool.not_eq_false'] at hcc
    obtain ⟨hk', hvp⟩ := hcc
    have e1 := Ty.eq_of_beq hk'
    subst e1
    obtain ⟨kt, vt, hu, hl, hkt, hdep⟩ := mapOk_ok ht hm
    obtain ⟨zv, hzr, hzl⟩ : ∃ zv, (∀ w, (zeroValue vt).run P w = .ok zv w) ∧ litV z.T z.x zv = true := by
      unfold mzeroOk at hz
      split at hz
      · rename_i ii hii
        split at hz
        · rename_i kt' vt' hm'
          have hu' := (ht t ii hii).1
          have : ii.desc = .map kt' vt' := by
            cases hdd : ii.desc <;> rw [hdd] at hm' <;> simp [descMap] at hm'
            rw [hm'.1, hm'.2]
          rw [this, hu] at hu'
          injection hu' with hu'
          injection hu' with _ hu'
          subst hu'
          split at hz
          · rename_i j hj
            obtain ⟨_, j', g1, _, _, g4⟩ := ht vt j hj
            exact ⟨j.zero, fun w => by simp [zeroValue, typeInfo, g1, g4], hz⟩
          · cases hz
        · cases hz
      · cases hz
    split at hK
    case h_2 => cases hK
    rename_i yv hyv
    obtain ⟨yT, yx⟩ := yv
    split at hK
    case isFalse => cases hK
    rename_i hy1
    split at hK
    case isFalse => cases hK
    rename_i hz1
    have e1 := Ty.eq_of_beq hy1
    simp only at e1
    subst e1
    obtain ⟨zT, zx⟩ := z
    have e2 := Ty.eq_of_beq hz1
    simp only at e2
    subst e2
    obtain ⟨t1, ry⟩ := opd_rel S hy hyv
    obtain ⟨b1, es1, cl1, f1, f2⟩ := mref_slot S hi
    obtain ⟨bb, es, clock, f3, f4, f5⟩ := map_slot S hs
    have hbb : b1 = bb := S.inv.inj b1 bb _ _ f2 f4 rfl
    subst hbb
    have hheap := S.inv.maps b1 _ _ f4
    have hev := opdT_eval (a := a) hx
    have hobj : (getObj b1).run P w = .ok (.map ⟨es⟩ clock) w := by simp [getObj, Sem.run, hheap]
    have hck := (check_key (P := P) ht hF (σ := σ) (h := h) w es.isEmpty yT hkt).1 kt 10000 (by omega) hl ry
    obtain ⟨res, g1, g2⟩ := find_key (P := P) ht hF hkt hl hdep ry w f5
    have hex : ∀ v w', (Instr.lookup t (.map (some b1)) (a.eval y) false).run P w = .ok v w' → (execOp a.eval o).run P w = .ok (.value v) w' := fun v w' hh => by
      have e : execOp a.eval o = (do pure (Next.value (← Instr.lookup t (a.eval x) (a.eval y) false))) := by
        unfold execOp
        rw [hop]
      rw [e, hev, f1, Sem.run_bind, hh]
      rfl
    have hcast1 : Ty.cast hy1 yx = yx := rfl
    have hcast2 : Ty.cast hz1 zx = zx := rfl
    rw [hcast1, hcast2] at hK
    rcases g2 with ⟨q1, q2, _⟩ | ⟨j, e, dd, q1, q2, q3, q4, q5, _⟩
    · subst q2
      rw [q1] at hK
      refine wp_put_pure (v := ⟨zT, zx⟩) S hd0 hK (val := zv) (w' := w) (hex _ _ ?_) rfl rfl rfl rfl hvp (t := []) (litV_rel hzl)
      simp only [Instr.lookup, Sem.run_bind, run_underlying hu, Result.andThen_ok, hobj, Sem.run_pure, List.isEmpty_toArray, hck, g1, hzr]
      rfl
    · subst q2
      rw [q1] at hK
      refine wp_put_pure (v := ⟨zT, dd⟩) S hd0 hK (val := e.val) (w' := w) (hex _ _ ?_) rfl rfl rfl rfl hvp q5
      simp only [Instr.lookup, Sem.run_bind, run_underlying hu, Result.andThen_ok, hobj, Sem.run_pure, List.isEmpty_toArray, hck, g1]
      rfl
end
end Go.Proofs.Bw
namespace Go.Proofs.Bw
open Go

section
variable {P : Program} {tab : Tab} {hd : List Nat} {R : Type} {σ : Sg} {h : Hp} {st : St} {a : Act} {w : World} {K : St → List Tag → Option R} {r : R} {o : Oper} {Q : Exit → Act → World → Prop}

theorem nil_val (S : SRel σ h st a.tmps w) {b : Opd} {x : Operand} (hx : opdOk b x = true) {u : Unit} (hv : opv st.get b = some ⟨.nil 0, u⟩) : a.eval x = .slice none 0 0 := by
  obtain ⟨tg, cc, hw, hr⟩ := opd_rel S hx hv
  simp only [Rel, nilVal] at hr
  have := slot_single rfl hw
  rw [this] at hr
  injection hr
theorem exec_bi {bi : Builtin} {xs : List Operand} {ts : List TypeId} (hop : o.op = .call { callee := .builtin bi, args := ⟨xs⟩, argTypes := ⟨ts⟩ }) {v : Value} {w' : World} (consts : Array Bool → Sem Value)
    (hb : ∀ cs, (builtin bi ⟨ts⟩ o.type cs ((⟨xs⟩ : Array Operand).map a.eval)).run P w = .ok (.value v) w') : (execOp a.eval o).run P w = .ok (.value v) w' := by
  unfold execOp
  rw [hop]
  simp only [resolve, Sem.run_bind, Sem.run_pure, Result.andThen_ok, invoke]
  exact hb _
theorem op_capN {d : Nat} {b : Opd} {t : TypeId} {x : Operand} (ht : TabOk P tab) (S : SRel σ h st a.tmps w) (hop : o.op = .call { callee := .builtin .cap, args := #[x], argTypes := #[t] }) (hd : dstOk a.tmps.size o d = true) (hx : opdOk b x = true)
    (hs : tabD tab t descIsSl = true) (hK : evOp st.get K (.capN d b) = some r) : o.wp P a w (Post σ h w st K r a) Q := by
  obtain ⟨dd, hu, hdd⟩ := tabD_ok ht hs
  obtain ⟨e, rfl⟩ : ∃ e, dd = .slice e := by cases dd <;> simp [descIsSl] at hdd; exact ⟨_, rfl⟩
  have hrun : ∀ ad len cap, a.eval x = .slice ad len cap → (execOp a.eval o).run P w = .ok (.value (goInt cap)) w := fun ad len cap hv => by
    unfold execOp
    rw [hop]
    simp [resolve, invoke, builtin, hv, Builtin.cap_, run_underlying hu]
  simp only [evOp] at hK
  split at hK
  · rename_i u hv
    have hxv := nil_val S hx hv
    exact wp_put_pure (v := ⟨.int .i64, (0 : Int)⟩) S hd hK (hrun _ _ _ hxv) rfl rfl rfl rfl rfl (t := []) ⟨[_], rfl, by simp only [Rel]; exact ⟨rfl, show -9223372036854775808 ≤ (0 : Int) ∧ (0 : Int) ≤ 9223372036854775807 by decide⟩⟩
  · rename_i z e' xs hv
    obtain ⟨tg, cc, hw, hr⟩ := opd_rel S hx hv
    simp only [Rel] at hr
    obtain ⟨ad, len, cap, e1, e2, e3, e4, _⟩ := hr
    have := slot_single rfl hw
    rw [this] at e1
    injection e1 with e1
    have hc : cap = len := e4 trivial
    have hm : maxLen = 9223372036854775807 := rfl
    have hcm := e2.2.2.1
    have := hrun ad len cap e1
    rw [hc, e3] at this
    refine wp_put_pure (v := ⟨.int .i64, (List.length (α := e'.den) xs : Int)⟩) S hd hK this rfl rfl rfl rfl rfl (t := []) (vrel_int ?_ _)
    show -9223372036854775808 ≤ (List.length (α := e'.den) xs : Int) ∧ (List.length (α := e'.den) xs : Int) ≤ 9223372036854775807
    omega
  · cases hK
theorem slc_sl (ht : TabOk P tab) {t es : Nat} (hs : slcOk tab t es = true) {e : TypeId} (hu : P.underlying t = some (.slice e)) : ∃ j, P.info? e = some j ∧ j.size = es := by
  rcases slcOk_ok ht hs with ⟨h1, _⟩ | ⟨e', j, h1, h2, h3, _⟩
  · rw [hu] at h1; cases h1
  · rw [hu] at h1; injection h1 with h1; injection h1 with h1; subst h1; exact ⟨j, h2, h3⟩
theorem op_slcN {d es : Nat} {b : Opd} {bl bh : Option Opd} {t : TypeId} {x : Operand} {lo hi : Option Operand} (ht : TabOk P tab) (S : SRel σ h st a.tmps w) (hop : o.op = .slice t x lo hi none) (hd : dstOk a.tmps.size o d = true) (hx : opdOk b x = true)
    (hl : optOk bl lo = true) (hh : optOk bh hi = true) (hs : slcOk tab t es = true) (hsl : tabD tab t descIsSl = true)
    (hK : evOp st.get K (.slcN d b bl bh es) = some r) : o.wp P a w (Post σ h w st K r a) Q := by
  simp only [evOp] at hK
  split at hK
  · rename_i u l hh' hv hlo hhi
    obtain ⟨k0, k1, k2, hk⟩ := sliceK_some hK
    have hxv := nil_val S hx hv
    have hl0 : l = 0 := by omega
    have hh0 : hh' = 0 := by omega
    subst hl0 hh0
    rcases slcOk_ok ht hs with ⟨hun, _⟩ | ⟨e, j, hun, hinf, hj, _⟩
    · obtain ⟨dd, hu, hdd⟩ := tabD_ok ht hsl
      rw [hun] at hu
      injection hu with hu
      subst hu
      cases hdd
    · have hB1 := opt_bnd S hl (dflt := 0) (y := 0) hlo (by omega) (by omega)
      have hB2 := opt_bnd S hh (dflt := 0) (y := 0) hhi (by omega) (by omega)
      have hrun := slice_run (P := P) (w := w) (mx := none) (m := 0) hun hinf (ad := none) (len := 0) (cap := 0) hB1 hB2 (.inl ⟨rfl, rfl⟩) (fun hh => (hh rfl).elim)
      rw [← hxv] at hrun
      refine wp_put_pure (v := ⟨.nil 0, ()⟩) S hd hk (val := .slice none 0 0) (exec_slice hop (.inr ⟨e, hun⟩) (by simpa using hrun)) rfl rfl rfl rfl rfl (t := []) ⟨[_], rfl, ?_⟩
      simp only [Rel, nilVal]
  · cases hK
theorem append_zeros {t u ty e : TypeId} {k kk : IntKind} {i : TypeInfo} {z : Value} (ht : P.underlying t = some (.slice e)) (hu : P.underlying u = some (.int k)) (hi : P.info? e = some i) (hz : i.zero = some z) {n : Nat} (h1 : 1 ≤ n) (heb : 1 ≤ i.bytes) (hsz : 1 ≤ i.size) (hfit : n * i.bytes ≤ 140737488355328) :
    (Builtin.append_ #[t, u] ty #[.slice none 0 0, .int kk (n : Int)]).run P w = .ok (.slice (some ⟨w.heap.size, 0, none⟩) n (grownCap w n 0 e))
      (w.drew.alloc (.cells (Builtin.zeroCells z.cells n ++ Builtin.zeroCells z.cells (grownCap w n 0 e - n)) e)) := by
  have hn : n * 1 ≤ n * i.bytes := Nat.mul_le_mul_left _ heb
  have hw : IntKind.i64.wrap (n : Int) = (n : Int) := by
    simp [IntKind.wrap, IntKind.bits, IntKind.signed]
    split <;> omega
  have ha : ∀ w', (asInt (.int kk (n : Int))).run P w' = .ok (n : Int) w' := fun _ => rfl
  have hneg : ¬ ((n : Int) < 0) := by omega
  have hbz : ¬ (281474976710656 < (n : Int) * (i.bytes : Int)) := by
    have : (n : Int) * (i.bytes : Int) = ((n * i.bytes : Nat) : Int) := by rw [Int.natCast_mul]
    rw [this]; omega
  have hz0 : ¬ (n * i.size = 0) := by
    have : 1 * 1 ≤ n * i.size := Nat.mul_le_mul h1 hsz
    omega
  have hgt : ¬ (n ≤ 0) := by omega
  have h63' : ¬ (9223372036854775807 < (n : Int)) := by omega
  have hfit' := growslice_fits (by omega : 0 < n) (by simpa using hfit)
  have h48' : ¬ (281474976710656 < Builtin.nextslicecap n 0 * i.bytes) := by omega
  simp [Builtin.append_, run_underlying ht, run_underlying hu, sizeOf, typeInfo, zeroValue, hi, hz, ha, hw, hneg, hbz, hz0, hgt, h63', h48', Question.forced, newRow, grownCap, Builtin.firstCells, loadCells, loadCellsFrom]
  omega
theorem zeroCells_list {z : Value} {s : Nat} (hs : 0 < s) (hz : z.cells.size = s) (n : Nat) : (Builtin.zeroCells z.cells n).toList = (List.replicate n z).flatMap fun v => v.cells.toList := by
  rw [← madeCells_list hs hz n]
  unfold Builtin.zeroCells madeCells
  rw [hz]
theorem op_appZ {d eb : Nat} {b c : Opd} {z : SV} {t u : TypeId} {x y : Operand} (ht : TabOk P tab) (S : SRel σ h st a.tmps w) (hop : o.op = .call { callee := .builtin .append, args := #[x, y], argTypes := #[t, u] }) (hd : dstOk a.tmps.size o d = true)
    (hx : opdOk b x = true) (hy : opdOk c y = true) (hs : mkOk tab t eb z = true) (hu : tabD tab u descIsInt = true) (hK : evOp st.get K (.appZ d b c z eb) = some r) : o.wp P a w (Post σ h w st K r a) Q := by
  obtain ⟨dd, hun, hdd⟩ := tabD_ok ht hu
  obtain ⟨ku, rfl⟩ : ∃ k, dd = .int k := by cases dd <;> simp [descIsInt] at hdd; exact ⟨_, rfl⟩
  simp only [evOp] at hK
  split at hK
  · rename_i u0 kk n hv hn
    obtain ⟨hcc, hK⟩ := bif_some hK
    simp only [Bool.and_eq_true, Nat.ble_eq] at hcc
    obtain ⟨hp, heb⟩ := hcc
    unfold geK at hK
    split at hK
    case isFalse => cases hK
    rename_i hn0
    obtain ⟨hfit, hK⟩ := appK_some hK
    obtain ⟨et, j, zv, g1, g2, g3, g4, g5, g6, g7, g8⟩ := mkOk_ok ht hs
    have hxv := nil_val S hx hv
    obtain ⟨e2, _⟩ := opd_int S hy hn
    obtain ⟨m, rfl⟩ : ∃ m : Nat, n = (m : Int) := ⟨n.toNat, by omega⟩
    simp only [Int.toNat_natCast, Nat.zero_add] at hfit hK
    have hexec : ∀ v w', (Builtin.append_ #[t, u] o.type #[.slice none 0 0, .int kk (m : Int)]).run P w = .ok v w' → (execOp a.eval o).run P w = .ok (.value v) w' := fun v w' hr => by
      unfold execOp
      rw [hop]
      simp [resolve, invoke, builtin, hxv, e2, hr]
    obtain ⟨zc, hw, hr⟩ := litV_rel (σ := σ) (h := h) (t := []) g7
    have hzc := wr_cells (solid_of_hard (hard_of_pure hp)) hw hr
    have hzl : zc.length = z.T.size := Rel.length hr
    have hfl : ∀ m, ((List.replicate m zc).flatten).length = m * z.T.size := fun m => by simp [List.length_flatten, hzl]
    have hzcl : ∀ m, (Builtin.zeroCells zv.cells m).toList = (List.replicate m zc).flatten := fun m => by
      rw [zeroCells_list (s := z.T.size) (by omega) g8, List.flatMap_replicate]
      simp [hzc]
    by_cases hm : m = 0
    · subst hm
      refine wp_put (v := ⟨.slX .N z.T, List.replicate 0 z.x⟩) S hd hK (val := .slice none 0 0) (w' := w) (hexec _ _ ?_) rfl rfl rfl rfl ⟨[_], rfl, ?_⟩ (by simpa [Ty.okTop, Ty.closed] using hp) (fun u hu => by cases hu)
      · have h48 : ¬ (281474976710656 < (0 : Int)) := by decide
        have ha : ∀ w', (asInt (.int kk 0)).run P w' = .ok (0 : Int) w' := fun _ => rfl
        have hw0 : IntKind.i64.wrap (0 : Int) = 0 := by decide
        simp [Builtin.append_, run_underlying g1, run_underlying hun, sizeOf, typeInfo, zeroValue, g2, g5, ha, hw0]
      · simp only [Rel]
        exact ⟨none, 0, 0, rfl, ⟨Nat.le_refl _, fun _ => rfl, Nat.zero_le _, by simp⟩, rfl, .inl rfl⟩
    · have hrun := append_zeros (P := P) (w := w) (ty := o.type) (kk := kk) g1 hun g2 g5 (n := m) (by omega) (by rw [g4]; exact heb) (by rw [g3]; omega) (by rw [g4]; exact hfit)
      have hex := hexec _ _ hrun
      have hmm : m ≤ maxLen := by
        have : m * 1 ≤ m * eb := Nat.mul_le_mul_left _ heb
        simp only [maxLen]; omega
      have hcg := grownCap_ge w m 0 et
      have hcm := grownCap_le_maxLen w m 0 et hmm
      generalize hcap : grownCap w m 0 et = cap' at hex hcg hcm
      obtain ⟨cs, hcs⟩ : ∃ cs : List Value, Builtin.zeroCells zv.cells m ++ Builtin.zeroCells zv.cells (cap' - m) = ⟨cs⟩ := ⟨_, rfl⟩
      have hcs' : cs = (List.replicate m zc).flatten ++ (List.replicate (cap' - m) zc).flatten := by
        rw [← hzcl, ← hzcl, ← Array.toList_append, hcs]
      rw [hcs] at hex
      refine wp_new (v := ⟨.slX .N z.T, List.replicate m z.x⟩) (cs := cs) (e := et) (lo := 0) (hi := 0) (blk := .row cs [d]) S hd hK hex rfl (.inr (Nat.le_refl _)) rfl rfl rfl rfl rfl ⟨[_], rfl, ?_⟩ (by simpa [Ty.closed] using hp) rfl
      simp only [Rel]
      refine ⟨_, m, cap', rfl, ⟨hcg, fun e => (by cases e), hcm, by simp [hm]⟩, by simp, .inr ⟨w.heap.size, cs, rfl, by simp [Hp.add], ?_, ?_⟩⟩
      · rw [hcs', List.length_append, hfl, hfl, ← Nat.add_mul]; congr 1; omega
      · rw [hcs', List.take_append_of_le_length (by rw [hfl]; exact Nat.le_refl _), List.take_of_length_le (by rw [hfl]; exact Nat.le_refl _)]
        exact EList.pureL σ.le_refl hp (EList.repl hr m)
  · cases hK
theorem op_slcT {d s es : Nat} {b : Opd} {t : TypeId} {x y : Operand} (ht : TabOk P tab) (S : SRel σ h st a.tmps w) (hop : o.op = .slice t x (some y) none none) (hd : dstOk a.tmps.size o d = true) (hx : opdOk (.t s) x = true) (hy : opdOk b y = true)
    (hs : slcOk tab t es = true) (hK : evOp st.get K (.slcT d s b es) = some r) : o.wp P a w (Post σ h w st K r a) Q := by
  have hev := opdT_eval (a := a) hx
  simp only [evOp] at hK
  split at hK
  · rename_i z u e xs k l hv hl
    obtain ⟨hcc, hK⟩ := bif_some hK
    simp only [Bool.and_eq_true, Nat.ble_eq] at hcc
    have hse := Nat.eq_of_beq_eq_true hcc.1
    obtain ⟨k0, k1, k2, hk⟩ := sliceK_some hK
    obtain ⟨_, cc, hw, hr⟩ := S.vals s _ hv
    simp only [Rel] at hr
    obtain ⟨ad, len, cap, e1, e2, e3, e4⟩ := hr
    have hxv : a.tmps.getD s undef = .slice ad len cap := by have := slot_single rfl hw; rw [this] at e1; injection e1
    obtain ⟨e', j, hun, hinf, hj⟩ : ∃ e' j, P.underlying t = some (.slice e') ∧ P.info? e' = some j ∧ j.size = es := by
      rcases slcOk_ok ht hs with ⟨_, h2⟩ | ⟨e', j, h1, h2, h3, _⟩
      · omega
      · exact ⟨e', j, h1, h2, h3⟩
    have hle := e2.1
    have hB1 := opt_bnd S (b := some b) (x := some y) (dflt := 0) (y := len) (i := l) hy (by simp only [optOpd, hl]) k0 (by omega)
    have hrun := slice_run (P := P) (w := w) (mx := none) (hi := none) (hh := len) (m := cap) hun hinf (ad := ad) (cap := cap) hB1 (.inl ⟨rfl, rfl⟩) (.inl ⟨rfl, rfl⟩) (fun hh => (hh rfl).elim)
    rw [hj, ← hse] at hrun
    refine wp_put (v := ⟨.slT u e, (l, (List.length (α := e.den) xs : Int) - l)⟩) S hd hk (exec_slice hop (.inr ⟨e', hun⟩) (by rw [hev, hxv]; exact hrun)) rfl rfl rfl rfl ⟨[_], rfl, ?_⟩ rfl (fun u' hu' => ?_)
    · simp only [Rel]
      refine ⟨_, _, by rw [show ((List.length (α := e.den) xs : Int) - l).toNat = len - l.toNat by omega], k0, by omega, ?_⟩
      by_cases hcl : cap = l.toNat
      · left; omega
      · right
        rcases e4 with e4 | ⟨bk, ch, f1, f2, f3, _⟩
        · omega
        · refine ⟨bk, ch, ?_, f2, ?_⟩
          · rw [if_neg hcl, f1]
            simp only [Option.map_some, addr_add, Nat.zero_add]
          · rw [f3]
            exact Nat.mul_le_mul_right _ (by omega)
    · injection hu' with hu'
      subst hu'
      exact S.look s _ _ hv rfl
  · cases hK
/-- the row that a slot owns alone is written -/
theorem SRel.setRow {tm : Array Value} (S : SRel σ h st tm w) {s b : Nat} {ch ch' : List Value} {v v' : SV} (hv : st.get s = some v) (hb : h b = some (.row ch [s])) (hlen : ch'.length = ch.length) (hc : v'.T.closed = true) (hp : v'.T.pure = false)
    (hr : VRel σ (Bw.stb b (.row ch' [s]) h) v'.T v'.x (tm.getD s undef) [s]) : Ext w σ h (setB w b ch') σ (Bw.stb b (.row ch' [s]) h) ∧ SStep h st tm [(s, some v')] [[s]] σ (Bw.stb b (.row ch' [s]) h) tm (setB w b ch') := by
  have gs : St.get [(s, some v')] s = some v' := by rw [get_cons, if_pos rfl]
  have hhas : ∀ k, hasS [(s, some v')] k = true → k = s := fun k hk => by
    simp only [hasS, Bool.or_false] at hk
    exact (beq_iff.1 hk).symm
  have hnot : ∀ k, hasS [(s, some v')] k = false → s ≠ k := fun k hk e => by
    subst e
    simp [hasS] at hk
  have hoth : ∀ c, c ≠ b → Bw.stb b (.row ch' [s]) h c = h c := fun c hne => by unfold Bw.stb; rw [if_neg hne]
  refine ⟨⟨by rw [setB_ext.2.2.2]; exact Nat.le_refl _, σ.le_refl, rfl, rfl, rfl, fun c hc hn => ?_⟩, ?_⟩
  · have hne : c ≠ b := fun e => by rw [e, hb] at hn; cases hn
    exact ⟨setB_other hne, by rw [hoth c hne]; exact hn, fun _ => rfl⟩
  refine SRel.upd2 S _ _ σ.le_refl (S.inv.stb (y := .row ch' [s]) hb rfl rfl rfl hlen) ?_ ?_ ?_ ⟨rfl, fun k hk => rfl⟩ ?_
  · intro c x k q hcx ht hk
    have hne : c ≠ b := fun e => by
      subst e
      rw [hb] at hcx
      injection hcx with hcx
      subst hcx
      injection ht with ht _
      exact hnot k hk ht
    rw [hoth c hne]; exact hcx
  · intro c x hcx
    by_cases hne : c = b
    · subst hne
      unfold Bw.stb at hcx
      rw [if_pos rfl] at hcx
      injection hcx with hcx
      subst hcx
      exact ⟨s, [], rfl, fun _ => ⟨_, gs, hp, hc⟩, fun hk => by simp [hasS] at hk⟩
    · rw [hoth c hne] at hcx
      obtain ⟨k, q, e, ho⟩ := S.own c x hcx
      refine ⟨k, q, e, fun hk => ?_, fun _ => hcx⟩
      rw [hhas k hk]
      exact ⟨_, gs, hp, hc⟩
  · intro k x hk hx
    have := hhas k hk
    subst this
    rw [gs] at hx
    injection hx with hx
    subst hx
    exact ⟨(S.vals k _ hv).1, hr, .inl hc⟩
  · intro s' x k q hs' hns hlk hk hok hdead
    exfalso
    have := hhas k hk
    subst this
    rw [dead_of hlk (c := [k]) (by simp) isPre_single] at hdead; cases hdead
/-- a slot's value is said anew -/
theorem SRel.again {tm : Array Value} (S : SRel σ h st tm w) {s : Nat} {v v' : SV} (hv : st.get s = some v) (hc : v'.T.closed = true) (hp : v'.T.pure = false) (hr : VRel σ h v'.T v'.x (tm.getD s undef) [s]) :
    SStep h st tm [(s, some v')] [[s]] σ h tm w := by
  have gs : St.get [(s, some v')] s = some v' := by rw [get_cons, if_pos rfl]
  have hhas : ∀ k, hasS [(s, some v')] k = true → k = s := fun k hk => by
    simp only [hasS, Bool.or_false] at hk
    exact (beq_iff.1 hk).symm
  refine SRel.upd2 S _ _ σ.le_refl S.inv (fun c x k q hcx _ _ => hcx) (fun c x hcx => ?_) (fun k x hk hx => ?_) ⟨rfl, fun k hk => rfl⟩ (fun s' x k q hs' hns hlk hk hok hdead => ?_)
  · obtain ⟨k, q, e, ho⟩ := S.own c x hcx
    refine ⟨k, q, e, fun hk => ?_, fun _ => hcx⟩
    rw [hhas k hk]
    exact ⟨_, gs, hp, hc⟩
  · have := hhas k hk
    subst this
    rw [gs] at hx
    injection hx with hx
    subst hx
    exact ⟨(S.vals k _ hv).1, hr, .inl hc⟩
  · exfalso
    have := hhas k hk
    subst this
    rw [dead_of hlk (c := [k]) (by simp) isPre_single] at hdead; cases hdead
theorem op_clr {s eb : Nat} {z : SV} {t : TypeId} {x : Operand} (ht : TabOk P tab) (S : SRel σ h st a.tmps w) (hop : o.op = .call { callee := .builtin .clear, args := #[x], argTypes := #[t] }) (hd0 : o.dst = none) (hx : opdOk (.t s) x = true)
    (hs : mkOk tab t eb z = true) (hK : evOp st.get K (.clr s z eb) = some r) : o.wp P a w (Post σ h w st K r a) Q := by
  have hev := opdT_eval (a := a) hx
  obtain ⟨et, j, zv, g1, g2, g3, g4, g5, g6, g7, g8⟩ := mkOk_ok ht hs
  simp only [evOp] at hK
  split at hK
  case h_2 => cases hK
  rename_i r0 e p hv
  split at hK
  case h_2 => cases hK
  rename_i n e' xs hr0
  split at hK
  case isFalse => cases hK
  rename_i hee
  have := Ty.eq_of_beq hee
  subst this
  split at hK
  case isFalse => cases hK
  rename_i hze
  unfold eqK at hK
  split at hK
  case isFalse => cases hK
  rename_i hsum
  cases hpe : (!e'.pure || !Nat.ble 1 e'.size) with
  | true => rw [hpe] at hK; cases hK
  | false =>
    rw [hpe, cond_false] at hK
    simp only [Bool.or_eq_false_iff, Bool.not_eq_false', Nat.ble_eq] at hpe
    obtain ⟨hep, hes⟩ := hpe
    obtain ⟨zT, zx⟩ := z
    have e2 := Ty.eq_of_beq hze
    simp only at e2
    subst e2
    obtain ⟨p1, p2⟩ : Int × Int := p
    have hcast : castL hee xs = xs := rfl
    have hcast2 : Ty.cast hze zx = zx := rfl
    simp only [hcast, hcast2] at hK hsum
    obtain ⟨xs, rfl⟩ : ∃ l : List zT.den, l = xs := ⟨xs, rfl⟩
    have hcl : (Ty.slX n zT).closed = true := by simpa [Ty.closed] using hep
    obtain ⟨_, cc, hw, hr⟩ := S.vals s _ hv
    simp only [Rel] at hr
    obtain ⟨ad, cap, e1, q1, q2, e3⟩ := hr
    have hxv : a.tmps.getD s undef = .slice ad p2.toNat cap := by have := slot_single rfl hw; rw [this] at e1; injection e1
    obtain ⟨_, cr, hwr, hrr⟩ := S.vals r0 _ hr0
    have hrr0 := hrr
    simp only [Rel] at hrr
    obtain ⟨ar, len, capr, f1, f2, f3, f4⟩ := hrr
    have hrv : a.tmps.getD r0 undef = .slice ar len capr := by have := slot_single rfl hwr; rw [this] at f1; injection f1
    have hexec : ∀ w', (Builtin.clear_ #[t] o.type #[.slice ad p2.toNat cap]).run P w = .ok (.tuple #[]) w' → (execOp a.eval o).run P w = .ok (.value (.tuple #[])) w' := fun w' hh => by
      unfold execOp
      rw [hop]
      simp [resolve, invoke, builtin, hev, hxv, hh]
    by_cases h0 : p2 = 0
    · subst h0
      have hdat : List.append (List.take p1.toNat xs) (List.replicate (0 : Int).toNat zx) = xs := by
        have : xs.length ≤ p1.toNat := by omega
        show List.take p1.toNat xs ++ [] = xs
        rw [List.append_nil, List.take_of_length_le this]
      rw [hdat] at hK
      have hrun : (Builtin.clear_ #[t] o.type #[.slice ad (0 : Int).toNat cap]).run P w = .ok (.tuple #[]) w := by
        cases ad <;> simp [Builtin.clear_, run_underlying g1]
      unfold Oper.wp
      rw [hexec _ hrun, Oper.upon_value, hd0]
      exact ⟨σ, h, _, _, hK, Ext.refl _ _ _, S.again hr0 hcl rfl ⟨cr, hwr, hrr0⟩, rfl, rfl⟩
    · rcases e3 with e3 | ⟨bk, ch, m1, m2, m3⟩
      · exact (h0 e3).elim
      · subst m1
        rcases f4 with f4 | ⟨b2, ch2, n1, n2, n3, n4⟩
        · have := f2.1; omega
        · have hbb : bk = b2 := S.inv.inj bk b2 _ _ m2 n2 rfl
          subst hbb
          rw [m2] at n2
          injection n2 with n2
          injection n2 with n2 _
          subst n2
          obtain ⟨zc, hwz, hrz⟩ := litV_rel (σ := σ) (h := h) (t := []) g7
          have hzc := wr_cells (solid_of_hard (hard_of_pure hep)) hwz hrz
          have hzl : zc.length = zT.size := Rel.length hrz
          have hfl : ∀ m, ((List.replicate m zc).flatten).length = m * zT.size := fun m => by simp [List.length_flatten, hzl]
          have hzcl : (Builtin.zeroCells zv.cells p2.toNat).toList = (List.replicate p2.toNat zc).flatten := by
            rw [zeroCells_list (s := zT.size) (by omega) g8, List.flatMap_replicate]
            simp [hzc]
          have hlen : len = p1.toNat + p2.toNat := by rw [f3]; omega
          have hmul : (p1.toNat + p2.toNat) * zT.size = p1.toNat * zT.size + p2.toNat * zT.size := Nat.add_mul _ _ _
          have hone : ∀ v ∈ (List.replicate p2.toNat zc).flatten, v.oneCell' = true := fun v hv => by
            obtain ⟨l, hl, hvl⟩ := List.mem_flatten.1 hv
            rw [(List.mem_replicate.1 hl).2] at hvl
            exact Rel.one (hard_of_pure hep) hrz v hvl
          obtain ⟨et2, lo, hi, k1, k2⟩ := S.inv.cells bk _ ch m2 rfl
          have hsplit : ch = ch.take (p1.toNat * zT.size) ++ (ch.drop (p1.toNat * zT.size)).take (p2.toNat * zT.size) ++ ch.drop (p1.toNat * zT.size + p2.toNat * zT.size) := by
            rw [List.append_assoc]
            conv => lhs; rw [← List.take_append_drop (p1.toNat * zT.size) ch]
            congr 1
            rw [← List.drop_drop, List.take_append_drop]
          have hl1 : (ch.take (p1.toNat * zT.size)).length = p1.toNat * zT.size := by rw [List.length_take]; omega
          have hl2 : ((ch.drop (p1.toNat * zT.size)).take (p2.toNat * zT.size)).length = p2.toNat * zT.size := by rw [List.length_take, List.length_drop]; omega
          have hsto := storeCells_run (P := P) (b := bk) (e := et2) (lo := lo) (hi := hi) ((List.replicate p2.toNat zc).flatten) (p1.toNat * zT.size) 0 (ch.take (p1.toNat * zT.size)) ((ch.drop (p1.toNat * zT.size)).take (p2.toNat * zT.size)) (ch.drop (p1.toNat * zT.size + p2.toNat * zT.size)) w
            (by rw [← hsplit]; exact k1) (by rw [← hsplit]; exact k2) (by rw [hl1]; rfl) (by rw [hl2, hfl]) hone
          generalize hch' : ch.take (p1.toNat * zT.size) ++ (List.replicate p2.toNat zc).flatten ++ ch.drop (p1.toNat * zT.size + p2.toNat * zT.size) = ch' at hsto
          have hlen' : ch'.length = ch.length := by rw [← hch']; simp only [List.length_append, hl1, hfl, List.length_drop]; omega
          have hrun : (Builtin.clear_ #[t] o.type #[.slice (some ⟨bk, p1.toNat * zT.size, none⟩) p2.toNat cap]).run P w = .ok (.tuple #[]) (setB w bk ch') := by
            have hne : p2.toNat ≠ 0 := by omega
            obtain ⟨m, hm⟩ : ∃ m, p2.toNat = m + 1 := ⟨p2.toNat - 1, by omega⟩
            have hz1 : ∀ w, (zeroValue et).run P w = .ok zv w := fun w => by simp [zeroValue, typeInfo, g2, g5]
            rw [hm] at hzcl hsto ⊢
            simp [Builtin.clear_, run_underlying g1, hz1, hzcl, hsto]
          obtain ⟨E, T⟩ := S.setRow (v' := ⟨.slX n zT, List.append (List.take p1.toNat xs) (List.replicate p2.toNat zx)⟩) hr0 m2 hlen' hcl rfl ⟨cr, hwr, by
            simp only [Rel]
            refine ⟨ar, len, capr, f1, f2, ?_, .inr ⟨bk, ch', n1, by unfold Bw.stb; rw [if_pos rfl], by rw [hlen']; exact n3, ?_⟩⟩
            · show len = (List.take p1.toNat xs ++ List.replicate p2.toNat zx).length
              rw [List.length_append, List.length_take, List.length_replicate]; omega
            · have htk : ch'.take (len * zT.size) = ch.take (p1.toNat * zT.size) ++ (List.replicate p2.toNat zc).flatten := by
                rw [← hch', hlen, hmul, List.take_append_of_le_length (by simp only [List.length_append, hl1, hfl]; omega), List.take_of_length_le (by simp only [List.length_append, hl1, hfl]; omega)]
              rw [htk]
              have h5 := EList.cut (n := zT.size) (fun _ _ hh => Rel.length hh) (0 : Int) (p1.toNat : Int) n4
              simp only [Bw.cut, Int.toNat_natCast, Int.toNat_zero, Nat.zero_mul, List.drop_zero, List.take_take] at h5
              rw [show min (p1.toNat * zT.size) (len * zT.size) = p1.toNat * zT.size by rw [hlen, hmul]; omega] at h5
              exact EList.append (EList.pureL σ.le_refl hep h5) (EList.pureL σ.le_refl hep (EList.repl hrz _))⟩
          unfold Oper.wp
          rw [hexec _ hrun, Oper.upon_value, hd0]
          exact ⟨σ, _, _, _, hK, E, T, rfl, rfl⟩
end
end Go.Proofs.Bw
namespace Go.Proofs.Bw
open Go

section
variable {P : Program} {tab : Tab} {hd : List Nat}

theorem dst_of {n : Nat} {o : Oper} {d : Nat} {a : Act} (hn : a.tmps.size = n) (h : dstOk n o d = true) : dstOk a.tmps.size o d = true := by rw [hn]; exact h
theorem isNone_eq {α : Type} {x : Option α} (h : x.isNone = true) : x = none := by cases x; rfl; cases h

theorem callT_sound {n : Nat} {o : Oper} {d : Option Nat} {sp : FSpec} {as : List Arg} {lt : List Tag} (hs : Meets P sp) (h : opOk tab hd n (.callT d sp as lt) o = true) : OpWp P n (.callT d sp as lt) o := by
  intro σ hp st a w us ks Q S hn he
  simp only [opOk] at h
  split at h
  · rename_i f xs ts hop
    simp only [Bool.and_eq_true] at h
    obtain ⟨⟨⟨h1, h2⟩, h3⟩, h4⟩ := h
    have := Nat.eq_of_beq_eq_true h1
    subst this
    have hdst : o.dst = d ∧ ∀ d', d = some d' → d' < n := by
      split at h4
      · rename_i x y hx
        simp only [Bool.and_eq_true, Nat.blt_eq] at h4
        have := Nat.eq_of_beq_eq_true h4.1
        subst this
        exact ⟨hx, fun d' e => by injection e with e; subst e; exact h4.2⟩
      · rename_i hx; exact ⟨hx, fun d' e => by cases e⟩
      · cases h4
    simp only [evOp] at he
    refine Oper.wp_mono ?_ (op_callS hs h2 S (callF_eq hop) hdst.1 (fun d' e => by rw [hn]; exact hdst.2 d' e) h3 he)
    rintro a' w' ⟨σ', h', us', ks', k1, k2, k3, k4, k5, _⟩
    obtain ⟨_, k1⟩ := bif_some k1
    simp only [Option.some.injEq, Prod.mk.injEq] at k1
    obtain ⟨rfl, rfl⟩ := k1
    exact ⟨σ', h', k2, k3, k5, fun _ => k4⟩
  · cases h
theorem stS_sound (ht : TabOk P tab) {n : Nat} {o : Oper} {s sz : Nat} {b : Opd} (h : opOk tab hd n (.stS s b sz) o = true) : OpWp P n (.stS s b sz) o := by
  intro σ hp st a w us ks Q S hn he
  simp only [opOk] at h
  split at h
  · rename_i t x y hop
    simp only [Bool.and_eq_true] at h
    have he : evOp st.get (fun us ks => some (us, ks)) (.st s b sz) = some (us, ks) := he
    refine Oper.wp_mono ?_ (op_stY ht S hop (isNone_eq h.1.1.1) h.1.1.2 h.1.2 h.2 he)
    rintro a' w' ⟨σ', h', us', ks', k1, k2, k3, k4, k5, _⟩
    simp only [Option.some.injEq, Prod.mk.injEq] at k1
    obtain ⟨rfl, rfl⟩ := k1
    refine ⟨σ', h', k2, k3, k5, fun _ k r hk _ hp => ?_⟩
    obtain ⟨g1, v, g2, g3, g4⟩ := k4 k r hk hp
    exact ⟨g1, v, by rw [get_upd, if_pos hk]; exact g2, g3, g4⟩
  · cases h
theorem opOk_sound (ht : TabOk P tab) (hF : EqFacts P hd) {n : Nat} {op : XOp} {o : Oper} (hc : ∀ sp ∈ op.calls, Meets P sp) (h : opOk tab hd n op o = true) : OpWp P n op o := by
  cases hT : op.isT with
  | true =>
    cases op with
    | callT d sp as lt => exact callT_sound (hc sp (by simp [XOp.calls])) h
    | stS s b sz => exact stS_sound ht h
    | _ => cases hT
  | false =>
  refine OpWp.of hT fun σ hp st a w r Q S hn he => ?_
  cases op with
  | mv d b =>
    simp only [opOk] at h
    split at h
    · rename_i x hx
      simp only [Bool.and_eq_true] at h
      exact op_mv S (mvOp_eq hx) (dst_of hn h.1) h.2 he
    · cases h
  | take d s =>
    simp only [opOk] at h
    split at h
    · rename_i x hx
      simp only [Bool.and_eq_true] at h
      exact op_take S (mvOp_eq hx) (dst_of hn h.1) h.2 he
    · cases h
  | bor d s =>
    simp only [opOk] at h
    split at h
    · rename_i x hx
      simp only [Bool.and_eq_true] at h
      exact op_bor S (mvOp_eq hx) (dst_of hn h.1) h.2 he
    · cases h
  | als d s =>
    simp only [opOk] at h
    split at h
    · rename_i x hx
      simp only [Bool.and_eq_true] at h
      exact op_als S (mvOp_eq hx) (dst_of hn h.1) h.2 he
    · cases h
  | frz d s =>
    simp only [opOk] at h
    split at h
    · rename_i x hx
      simp only [Bool.and_eq_true] at h
      exact op_frz S (mvOp_eq hx) (dst_of hn h.1) h.2 he
    · cases h
  | idxE d b c es =>
    simp only [opOk] at h
    split at h
    · rename_i t x y hop
      simp only [Bool.and_eq_true] at h
      exact op_idxE ht S hop (dst_of hn h.1.1.1.1) (isT_nc h.1.1.1.2) h.1.1.2 h.1.2 h.2 he
    · cases h
  | ldE d b sz ag =>
    simp only [opOk] at h
    split at h
    · rename_i t x hop
      simp only [Bool.and_eq_true] at h
      exact op_ldE ht S hop (dst_of hn h.1.1) h.1.2 h.2 he
    · cases h
  | ldA d b sz =>
    simp only [opOk] at h
    split at h
    · rename_i t x hop
      simp only [Bool.and_eq_true] at h
      exact op_ldA ht S hop (dst_of hn h.1.1) h.1.2 h.2 he
    · cases h
  | stE b v sz =>
    simp only [opOk] at h
    split at h
    · rename_i t x y hop
      simp only [Bool.and_eq_true] at h
      exact op_stE ht S hop (isNone_eq h.1.1.1) h.1.1.2 h.1.2 h.2 he
    · cases h
  | slcX d s hi es =>
    simp only [opOk] at h
    split at h
    · rename_i t x y hop
      simp only [Bool.and_eq_true] at h
      obtain ⟨⟨⟨h1, h2⟩, h3⟩, h4⟩ := h
      exact op_slcX ht S hop (dst_of hn h1) h2 h3 h4 he
    · cases h
  | mnx d mx b c =>
    simp only [opOk] at h
    split at h
    · rename_i bi x y t u hop
      simp only [Bool.and_eq_true] at h
      obtain ⟨⟨⟨h1, h2⟩, h3⟩, h4⟩ := h
      exact op_mnx S (callB_eq hop) (by cases mx <;> cases bi <;> first | rfl | cases h1) (dst_of hn h2) h3 h4 he
    · cases h
  | rng d b =>
    simp only [opOk] at h
    split at h
    · rename_i t x hop
      simp only [Bool.and_eq_true] at h
      obtain ⟨⟨h1, h2⟩, h3⟩ := h
      exact op_rng ht S hop (dst_of hn h1) h2 h3 he
    · cases h
  | nxt d s =>
    simp only [opOk] at h
    split at h
    · rename_i x hop
      simp only [Bool.and_eq_true] at h
      exact op_nxt S hop (dst_of hn h.1) h.2 he
    · cases h
  | appC d b c eb es => cases h
  | capN d b =>
    simp only [opOk] at h
    split at h
    · rename_i x t hop
      simp only [Bool.and_eq_true] at h
      exact op_capN ht S (callB_eq hop) (dst_of hn h.1.1) h.1.2 h.2 he
    · cases h
  | slcN d b bl bh es =>
    simp only [opOk] at h
    split at h
    · rename_i t x lo hi hop
      simp only [Bool.and_eq_true] at h
      exact op_slcN ht S hop (dst_of hn h.1.1.1.1.1) h.1.1.1.1.2 h.1.1.1.2 h.1.1.2 h.1.2 h.2 he
    · cases h
  | appZ d b c z eb =>
    simp only [opOk] at h
    split at h
    · rename_i x y t u hop
      simp only [Bool.and_eq_true] at h
      exact op_appZ ht S (callB_eq hop) (dst_of hn h.1.1.1.1) h.1.1.1.2 h.1.1.2 h.1.2 h.2 he
    · cases h
  | slcT d s b es =>
    simp only [opOk] at h
    split at h
    · rename_i t x y hop
      simp only [Bool.and_eq_true] at h
      exact op_slcT ht S hop (dst_of hn h.1.1.1.1) h.1.1.1.2 h.1.1.2 h.1.2 he
    · cases h
  | clr s z eb =>
    simp only [opOk] at h
    split at h
    · rename_i x t hop
      simp only [Bool.and_eq_true] at h
      exact op_clr ht S (callB_eq hop) (isNone_eq h.1.1) h.1.2 h.2 he
    · cases h
  | mkmap d k v =>
    simp only [opOk] at h
    split at h
    · rename_i t hop
      exact op_mkmap S hop (dst_of hn h) he
    · cases h
  | alsM d s =>
    simp only [opOk] at h
    split at h
    · rename_i x hx
      simp only [Bool.and_eq_true] at h
      exact op_alsM S (mvOp_eq hx) (dst_of hn h.1) h.2 he
    · cases h
  | mset s b c k v =>
    simp only [opOk] at h
    split at h
    · rename_i t x y z hop
      simp only [Bool.and_eq_true] at h
      exact op_mset ht hF S hop (isNone_eq h.1.1.1.1) h.1.1.1.2 h.1.1.2 h.1.2 h.2 he
    · cases h
  | mget d s b k z =>
    simp only [opOk] at h
    split at h
    · rename_i t x y hop
      simp only [Bool.and_eq_true] at h
      exact op_mget ht hF S hop (dst_of hn h.1.1.1.1) h.1.1.1.2 h.1.1.2 h.1.2 h.2 he
    · cases h
  | mkfn d f cs =>
    simp only [opOk] at h
    split at h
    · rename_i g xs hop
      simp only [Bool.and_eq_true] at h
      obtain ⟨⟨h1, h2⟩, h3⟩ := h
      have := Nat.eq_of_beq_eq_true h2
      subst this
      exact op_mkfn S (mkfnO_eq hop) (dst_of hn h1) h3 he
    · cases h
  | coeS s T => cases h
  | bin d bo b c =>
    simp only [opOk] at h
    split at h
    · rename_i bo' t x y u hop
      simp only [Bool.and_eq_true] at h
      have := binN_eq h.1.1.1
      subst this
      exact op_bin S hop (dst_of hn h.1.1.2) h.1.2 h.2 he
    · cases h
  | eqs d neg b c T =>
    simp only [opOk] at h
    split at h
    · rename_i bo' t x y u hop
      simp only [Bool.and_eq_true, Bool.or_eq_true, Bool.not_eq_true'] at h
      obtain ⟨⟨⟨⟨⟨⟨⟨h1, h2⟩, h3⟩, h4⟩, h5⟩, h6⟩, h7⟩, h8⟩ := h
      have := binN_eq h1
      subst this
      exact op_eqs ht hF S hop (dst_of hn h2) h3 h4 h5 (Nat.le_of_ble_eq_true h6) h7 (fun hag => h8.resolve_left (by rw [hag]; simp)) he
    · cases h
  | un d u b =>
    simp only [opOk] at h
    split at h
    · rename_i u' t x hop
      simp only [Bool.and_eq_true] at h
      have := unN_eq h.1.1
      subst this
      exact op_un S hop (dst_of hn h.1.2) h.2 he
    · cases h
  | cvt d c b =>
    simp only [opOk] at h
    split at h
    · rename_i s t x hop
      simp only [Bool.and_eq_true] at h
      obtain ⟨⟨h1, h2⟩, h3⟩ := h
      cases c with
      | int k => exact op_cvtI ht S hop (dst_of hn h1) h2 h3 he
      | b2s =>
        simp only [Bool.and_eq_true] at h3
        exact op_cvtB2s ht S hop (dst_of hn h1) h2 (cOk_top h3.2) h3.1.1 h3.1.2 he
      | s2b =>
        simp only [Bool.and_eq_true] at h3
        exact op_cvtS2b ht S hop (dst_of hn h1) h2 h3.1 h3.2 he
      | same =>
        simp only [Bool.and_eq_true] at h3
        exact op_cvtSame ht S hop (dst_of hn h1) h2 h3 he
    · cases h
  | len d b str =>
    simp only [opOk] at h
    split at h
    · rename_i x t hop
      simp only [Bool.and_eq_true] at h
      exact op_len ht S (callB_eq hop) (dst_of hn h.1.1) h.1.2 h.2 he
    · cases h
  | idxA d b c es al =>
    simp only [opOk] at h
    split at h
    · rename_i t x y hop
      simp only [Bool.and_eq_true] at h
      exact op_idxA ht S hop (dst_of hn h.1.1.1.1) (isT_nc h.1.1.1.2) h.1.1.2 h.1.2 h.2 he
    · cases h
  | idx d b c es ag al =>
    simp only [opOk] at h
    split at h
    · rename_i t x y hop
      simp only [Bool.and_eq_true] at h
      exact op_idx_str ht S hop (dst_of hn h.1.1.1) h.1.1.2 h.1.2 h.2 he
    · cases h
  | ld d s sz ag =>
    simp only [opOk] at h
    split at h
    · rename_i t x hop
      simp only [Bool.and_eq_true] at h
      exact op_ld ht S hop (dst_of hn h.1.1) h.1.2 h.2 he
    · cases h
  | ldT d s sz ag =>
    simp only [opOk] at h
    split at h
    · rename_i t x hop
      simp only [Bool.and_eq_true] at h
      exact op_ldT ht S hop (dst_of hn h.1.1) h.1.2 h.2 he
    · cases h
  | st s b sz =>
    simp only [opOk] at h
    split at h
    · rename_i t x y hop
      simp only [Bool.and_eq_true] at h
      exact op_st ht S hop (isNone_eq h.1.1.1) h.1.1.2 h.1.2 h.2 he
    · cases h
  | stT s k sz =>
    simp only [opOk] at h
    split at h
    · rename_i t x y hop
      simp only [Bool.and_eq_true] at h
      exact op_stT ht S hop (isNone_eq h.1.1.1) h.1.1.2 h.1.2 h.2 he
    · cases h
  | alloc d z =>
    simp only [opOk] at h
    split at h
    · rename_i e hop
      simp only [Bool.and_eq_true] at h
      exact op_alloc ht S hop (dst_of hn h.1) h.2 he
    · cases h
  | boxv d b =>
    simp only [opOk] at h
    split at h
    · rename_i e x hop
      simp only [Bool.and_eq_true] at h
      exact op_boxv S hop (dst_of hn h.1) h.2 he
    · cases h
  | boxT d s =>
    simp only [opOk] at h
    split at h
    · rename_i e x hop
      simp only [Bool.and_eq_true] at h
      exact op_boxT S hop (dst_of hn h.1) h.2 he
    · cases h
  | crefv d b =>
    simp only [opOk] at h
    split at h
    · rename_i e x hop
      simp only [Bool.and_eq_true] at h
      exact op_crefv S hop (dst_of hn h.1) h.2 he
    · cases h
  | fa d s m off =>
    simp only [opOk] at h
    split at h
    · rename_i t x m' hop
      simp only [Bool.and_eq_true] at h
      have := Nat.eq_of_beq_eq_true h.1.1.1
      subst this
      exact op_fa ht S hop (dst_of hn h.1.1.2) h.1.2 h.2 he
    · cases h
  | fld d b m off sz ag =>
    simp only [opOk] at h
    split at h
    · rename_i t x m' hop
      simp only [Bool.and_eq_true] at h
      have := Nat.eq_of_beq_eq_true h.1.1.1
      subst this
      exact op_fld ht S hop (dst_of hn h.1.1.2) h.1.2 h.2 he
    · cases h
  | build d z ps =>
    simp only [opOk] at h
    split at h
    · rename_i t parts hop
      simp only [Bool.and_eq_true] at h
      exact op_build ht S hop (dst_of hn h.1.1) h.1.2 h.2 he
    · cases h
  | bsl d e ps =>
    simp only [opOk] at h
    split at h
    · rename_i t len parts hop
      simp only [Bool.and_eq_true] at h
      exact op_bsl ht S hop (dst_of hn h.1.1.1) h.1.1.2 h.1.2 (Nat.eq_of_beq_eq_true h.2) he
    · cases h
  | slc d b bl bh bm es =>
    simp only [opOk] at h
    split at h
    · rename_i t x lo hi mx hop
      simp only [Bool.and_eq_true, Bool.or_eq_true] at h
      obtain ⟨⟨⟨⟨⟨⟨⟨h1, h2⟩, h3⟩, h4⟩, h5⟩, h6⟩, h7⟩, h8⟩ := h
      exact op_slc ht S hop (dst_of hn h1) h2 (cOk_top h3) (cOk_look h3) (fun hm hh => by
        rcases h8 with h8 | h8
        · exact hm (isNone_eq h8)
        · rw [hh] at h8; cases h8) h4 h5 h6 h7 he
    · cases h
  | app d s b eb es =>
    simp only [opOk] at h
    split at h
    · rename_i x y t u hop
      simp only [Bool.and_eq_true] at h
      obtain ⟨⟨⟨⟨⟨h1, h2⟩, h3⟩, h4⟩, h5⟩, h6⟩ := h
      exact op_app ht S (callB_eq hop) (dst_of hn h1) h2 h3 (cOk_top h4) h5 h6 he
    · cases h
  | mk d z bn bc eb =>
    simp only [opOk] at h
    split at h
    · rename_i t x y hop
      simp only [Bool.and_eq_true] at h
      exact op_mk ht S hop (dst_of hn h.1.1.1) h.1.1.2 h.1.2 h.2 he
    · cases h
  | ext d s m =>
    simp only [opOk] at h
    split at h
    · rename_i x m' hop
      simp only [Bool.and_eq_true] at h
      have := Nat.eq_of_beq_eq_true h.1.1
      subst this
      exact op_ext S hop (dst_of hn h.1.2) h.2 he
    · cases h
  | pick d b1 b2 b3 =>
    simp only [opOk] at h
    split at h
    · rename_i x y z hop
      simp only [Bool.and_eq_true] at h
      exact op_pick S hop (dst_of hn h.1.1.1) h.1.1.2 h.1.2 h.2 he
    · cases h
  | pickG d b1 b2 b3 l =>
    simp only [opOk] at h
    split at h
    · rename_i x y z hop
      simp only [Bool.and_eq_true] at h
      exact op_pickG S hop (dst_of hn h.1.1.1) h.1.1.2 h.1.2 h.2 he
    · cases h
  | nilchk d b =>
    simp only [opOk] at h
    split at h
    · rename_i x hop
      simp only [Bool.and_eq_true] at h
      exact op_nilchk S hop (dst_of hn h.1.1) h.1.2 (isT_nc h.2) he
    · cases h
  | eqnil d b neg sl =>
    simp only [opOk] at h
    split at h
    · rename_i bo t x y u hop
      simp only [Bool.and_eq_true] at h
      obtain ⟨⟨⟨⟨h1, h2⟩, h3⟩, h4⟩, h5⟩ := h
      have := binN_eq h1
      subst this
      exact op_eqnil ht S hop (dst_of hn h2) h3 (by cases sl <;> exact isNil_eval h4) h5 he
    · cases h
  | call d sp as =>
    simp only [opOk] at h
    split at h
    · rename_i f xs ts hop
      simp only [Bool.and_eq_true] at h
      obtain ⟨⟨⟨h1, h2⟩, h3⟩, h4⟩ := h
      have := Nat.eq_of_beq_eq_true h1
      subst this
      have hdst : o.dst = d ∧ ∀ d', d = some d' → d' < n := by
        split at h4
        · rename_i x y hx
          simp only [Bool.and_eq_true, Nat.blt_eq] at h4
          have := Nat.eq_of_beq_eq_true h4.1
          subst this
          exact ⟨hx, fun d' e => by injection e with e; subst e; exact h4.2⟩
        · rename_i hx; exact ⟨hx, fun d' e => by cases e⟩
        · cases h4
      exact op_call (hc sp (by simp [XOp.calls])) h2 S (callF_eq hop) hdst.1 (fun d' e => by rw [hn]; exact hdst.2 d' e) h3 he
    · cases h
  | callT d sp as lt => cases hT
  | stS s b sz => cases hT
  | callF d sp s N as =>
    simp only [opOk] at h
    split at h
    · rename_i c xs hop
      simp only [Bool.and_eq_true] at h
      obtain ⟨⟨⟨⟨⟨h0, h1⟩, h2⟩, h3⟩, h5⟩, h4⟩ := h
      have := Nat.eq_of_beq_eq_true h0
      subst this
      have hdst : o.dst = d ∧ ∀ d', d = some d' → d' < N := by
        split at h4
        · rename_i x y hx
          simp only [Bool.and_eq_true, Nat.blt_eq] at h4
          have := Nat.eq_of_beq_eq_true h4.1
          subst this
          exact ⟨hx, fun d' e => by injection e with e; subst e; exact h4.2⟩
        · rename_i hx; exact ⟨hx, fun d' e => by cases e⟩
        · cases h4
      obtain ⟨ts, hop⟩ := callW_eq hop
      exact op_callF (hc sp (by simp [XOp.calls])) h2 S hop hdst.1 hdst.2 h1 h3 h5 hn he
    · cases h
  | mkfp d f s =>
    simp only [opOk] at h
    split at h
    · rename_i g x hop
      simp only [Bool.and_eq_true] at h
      obtain ⟨⟨h1, h2⟩, h3⟩ := h
      have := Nat.eq_of_beq_eq_true h2
      subst this
      exact op_mkfp S (mkfnO_eq hop) (dst_of hn h1) h3 he
    · cases h
  | callV d sp s N as =>
    simp only [opOk] at h
    split at h
    · rename_i c xs hop
      simp only [Bool.and_eq_true] at h
      obtain ⟨⟨⟨⟨⟨h0, h1⟩, h2⟩, h3⟩, h5⟩, h4⟩ := h
      have := Nat.eq_of_beq_eq_true h0
      subst this
      have hdst : o.dst = d ∧ ∀ d', d = some d' → d' < N := by
        split at h4
        · rename_i x y hx
          simp only [Bool.and_eq_true, Nat.blt_eq] at h4
          have := Nat.eq_of_beq_eq_true h4.1
          subst this
          exact ⟨hx, fun d' e => by injection e with e; subst e; exact h4.2⟩
        · rename_i hx; exact ⟨hx, fun d' e => by cases e⟩
        · cases h4
      obtain ⟨ts, hop⟩ := callW_eq hop
      exact op_callV (hc sp (by simp [XOp.calls])) h2 S hop hdst.1 hdst.2 h1 h3 h5 hn he
    · cases h
  | shp d sh u =>
    have he' : ∃ v, shV st.get sh = some v ∧ put st.get d v (fun us ks => some (us, ks)) = some r := by
      simp only [evOp] at he
      cases hv : shV st.get sh with
      | none => rw [hv] at he; cases he
      | some v =>
        rw [hv] at he
        exact ⟨v, rfl, (bif_some he).2⟩
    obtain ⟨v, hv, hp⟩ := he'
    have he := shp_ev hv hp
    cases sh with
    | nc s =>
      simp only [opOk] at h
      split at h
      · rename_i x hop
        simp only [Bool.and_eq_true] at h
        exact op_nilchk S hop (dst_of hn h.1.1) h.1.2 (isT_nc h.2) he
      · cases h
    | bor s =>
      simp only [opOk] at h
      split at h
      · rename_i x hx
        simp only [Bool.and_eq_true] at h
        exact op_bor S (mvOp_eq hx) (dst_of hn h.1) h.2 he
      · cases h
    | ld s sz ag =>
      simp only [opOk] at h
      split at h
      · rename_i t x hop
        simp only [Bool.and_eq_true] at h
        exact op_ld ht S hop (dst_of hn h.1.1) h.1.2 h.2 he
      · cases h
    | fa s m off =>
      simp only [opOk] at h
      split at h
      · rename_i t x m' hop
        simp only [Bool.and_eq_true] at h
        have := Nat.eq_of_beq_eq_true h.1.1.1
        subst this
        exact op_fa ht S hop (dst_of hn h.1.1.2) h.1.2 h.2 he
      · cases h

/-! regions -/
def guardB (ops : List Oper) (o : Oper) (s : Stp) : Bool :=
  match o.guard, s.g with
  | none, none => true
  | some (i, want), some (j, want') => bbeq want want' && (match ops[i]? with
    | some p => (match p.dst with | some d => Nat.beq d j | none => false)
    | none => false)
  | _, _ => false
theorem guardB_ok {ops : Array Oper} {o : Oper} {s : Stp} (h : guardB ops.toList o s = true) : guardM ops o s := by
  unfold guardB at h
  unfold guardM
  split at h
  · rename_i h1 h2; rw [h1, h2]; trivial
  · rename_i i want j want' h1 h2
    rw [h1, h2]
    simp only [Bool.and_eq_true] at h
    refine ⟨bbeq_eq h.1, ?_⟩
    have h3 := h.2
    rw [Array.getElem?_toList] at h3
    split at h3
    · rename_i p hp
      rw [hp]
      simp only [Option.bind_some]
      split at h3
      · rename_i d hd; rw [hd, Nat.eq_of_beq_eq_true h3]
      · cases h3
    · cases h3
  · cases h
def onB : Option Nat → Option Nat → Bool
  | none, none => true
  | some a, some b => Nat.beq a b
  | _, _ => false
theorem onB_eq {a b : Option Nat} (h : onB a b = true) : a = b := by
  cases a <;> cases b <;> first | rfl | (cases h; done) | skip
  rw [Nat.eq_of_beq_eq_true h]
def stpOk (tab : Tab) (hd : List Nat) (ops : List Oper) (L : List Nat) (n : Nat) (s : Stp) (o : Oper) : Bool :=
  opOk tab hd n s.op o && onB o.dst (dstX s.op) && (match o.dst with | some d => Nat.blt d n && !memN L d | none => true) && guardB ops o s && s.tame
def stpsOk (tab : Tab) (hd : List Nat) (ops : List Oper) (L : List Nat) (n : Nat) : List Stp → List Oper → Bool
  | [], [] => true
  | s :: r, o :: q => stpOk tab hd ops L n s o && stpsOk tab hd ops L n r q
  | _, _ => false
def stpCalls : List Stp → List FSpec
  | [] => []
  | s :: r => s.op.calls ++ stpCalls r
theorem stpCalls_mem : ∀ {l : List Stp} {k : Nat} {s : Stp}, l[k]? = some s → ∀ sp ∈ s.op.calls, sp ∈ stpCalls l
  | [], k, s, h, _, _ => by simp at h
  | t :: r, 0, s, h, sp, hs => by
    simp only [List.getElem?_cons_zero, Option.some.injEq] at h
    subst h
    exact List.mem_append.2 (.inl hs)
  | t :: r, k + 1, s, h, sp, hs => List.mem_append.2 (.inr (stpCalls_mem (by simpa using h) sp hs))
theorem stpsOk_at (ht : TabOk P tab) (hF : EqFacts P hd) {ops : Array Oper} {L : List Nat} {n : Nat} : ∀ {l : List Stp} {q : List Oper}, stpsOk tab hd ops.toList L n l q = true → l.length = q.length ∧
    ∀ (k : Nat) (s : Stp), l[k]? = some s → ∃ o : Oper, q[k]? = some o ∧ stpOk tab hd ops.toList L n s o = true
  | [], [], _ => ⟨rfl, fun k s h => by simp at h⟩
  | [], _ :: _, h => by cases h
  | _ :: _, [], h => by cases h
  | s :: r, o :: q, h => by
    simp only [stpsOk, Bool.and_eq_true] at h
    obtain ⟨h1, h2⟩ := stpsOk_at ht hF h.2
    refine ⟨by simp [h1], fun k s' hk => ?_⟩
    rcases k with _ | k
    · simp only [List.getElem?_cons_zero, Option.some.injEq] at hk
      subst hk
      exact ⟨o, rfl, h.1⟩
    · obtain ⟨o', e1, e2⟩ := h2 k s' (by simpa using hk)
      exact ⟨o', by simpa using e1, e2⟩
def regB (tab : Tab) (hd : List Nat) (L : List Nat) (n : Nat) (ops : List Oper) (xi : XI) : Bool :=
  stpsOk tab hd ops L n (flat none xi) ops && xiOk none xi
theorem regB_ok (ht : TabOk P tab) (hF : EqFacts P hd) {ops : Array Oper} {L : List Nat} {n : Nat} {xi : XI} (hc : ∀ sp ∈ stpCalls (flat none xi), Meets P sp) (h : regB tab hd L n ops.toList xi = true) : RegM P ops L n xi := by
  simp only [regB, Bool.and_eq_true] at h
  obtain ⟨h1, h2⟩ := stpsOk_at ht hF h.1
  refine ⟨by simpa using h1, h.2, fun k s hk => ?_⟩
  obtain ⟨o, e1, e2⟩ := h2 k s hk
  simp only [stpOk, Bool.and_eq_true] at e2
  obtain ⟨⟨⟨⟨f1, f2⟩, f3⟩, f4⟩, f5⟩ := e2
  refine ⟨⟨o, by rw [← Array.getElem?_toList]; exact e1, opOk_sound ht hF (fun sp hsp => hc sp (stpCalls_mem hk sp hsp)) f1, onB_eq f2, fun d hd => ?_, guardB_ok f4⟩, f5⟩
  rw [hd] at f3
  simp only [Bool.and_eq_true, Nat.blt_eq, Bool.not_eq_true'] at f3
  exact ⟨f3.1, fun hm => by rw [memN_iff.2 hm] at f3; exact absurd f3.2 (by simp)⟩
/-- what comes ahead of each operation -/
def ancL : List Oper → List Nat → List Nat
  | [], acc => acc
  | o :: r, acc => ancL r (acc ++ [o.after.toList.foldl (fun m e => bif Region.binds .any e then Nat.lor m (Nat.lor (Nat.shiftLeft 1 e.on) (acc.getD e.on 0)) else m) 0])
def codeB (tab : Tab) (hd : List Nat) (L : List Nat) (n : Nat) : XC → Code → Bool
  | .skip, .skip => true
  | .reg xi, .region _ ops false => regB tab hd L n ops.toList xi
  | .regD xi, .region _ ops true => regB tab hd L n ops.toList xi && chk (ancL ops.toList []) [] ops.toList (flat none xi) 0
  | .seq a b, .seq c d => codeB tab hd L n a c && codeB tab hd L n b d
  | .cond o a b, .cond x c d => opdOk o x && codeB tab hd L n a c && codeB tab hd L n b d
  | .keep _ a, c => codeB tab hd L n a c
  | .pre _ a, c => codeB tab hd L n a c
  | .aft a _, c => codeB tab hd L n a c
  | .block i a, .block j c => Nat.beq i j && Nat.blt i 1000000 && codeB tab hd L n a c
  | .loop _ _ a, .loop c => codeB tab hd L n a c
  | .exit i, .exit j => Nat.beq i j && Nat.blt i 1000000
  | .ret, .ret => true
  | .skip, .label _ => true
  | .scopeS a, .scope c => codeB tab hd L n a c
  | .scope l a r, .scope c => codeB tab hd L n a c && (match findLabel c l with
    | some b => codeB tab hd L n r b
    | none => false)
  | .goto l, .goto m => Nat.beq l m
  | .drop a, c => codeB tab hd L n a c
  | .dead, _ => true
  | _, _ => false
def XC.calls : XC → List FSpec
  | .reg xi => stpCalls (flat none xi)
  | .regD xi => stpCalls (flat none xi)
  | .seq a b => a.calls ++ b.calls
  | .cond _ a b => a.calls ++ b.calls
  | .keep _ a => a.calls
  | .pre _ a => a.calls
  | .aft a _ => a.calls
  | .block _ a => a.calls
  | .loop _ _ a => a.calls
  | .scope _ a r => a.calls ++ r.calls
  | .scopeS a => a.calls
  | .drop a => a.calls
  | _ => []
theorem codeB_ok (ht : TabOk P tab) (hF : EqFacts P hd) (hmix : P.follows .mixedOrders = true) {L : List Nat} {n : Nat} : ∀ {c : XC} {code : Code}, (∀ sp ∈ c.calls, Meets P sp) → codeB tab hd L n c code = true → CodeM P L n c code := by
  intro c
  induction c with
  | skip => intro code _ h; cases code <;> first | trivial | cases h
  | reg xi =>
    intro code hc h
    cases code <;> first | (cases h; done) | skip
    rename_i id ops dr
    cases dr
    · exact regB_ok ht hF hc h
    · cases h
  | regD xi =>
    intro code hc h
    cases code <;> first | (cases h; done) | skip
    rename_i id ops dr
    cases dr
    · cases h
    · simp only [codeB, Bool.and_eq_true] at h
      exact ⟨regB_ok ht hF hc h.1, hmix, _, h.2⟩
  | seq a b iha ihb =>
    intro code hc h
    cases code <;> first | (cases h; done) | skip
    simp only [codeB, Bool.and_eq_true] at h
    exact ⟨iha (fun sp hs => hc sp (List.mem_append.2 (.inl hs))) h.1, ihb (fun sp hs => hc sp (List.mem_append.2 (.inr hs))) h.2⟩
  | cond o a b iha ihb =>
    intro code hc h
    cases code <;> first | (cases h; done) | skip
    simp only [codeB, Bool.and_eq_true] at h
    exact ⟨h.1.1, iha (fun sp hs => hc sp (List.mem_append.2 (.inl hs))) h.1.2, ihb (fun sp hs => hc sp (List.mem_append.2 (.inr hs))) h.2⟩
  | keep l a ih => intro code hc h; exact ih hc h
  | pre gs a ih => intro code hc h; exact ih hc h
  | aft a gs ih => intro code hc h; exact ih hc h
  | block i a ih =>
    intro code hc h
    cases code <;> first | (cases h; done) | skip
    simp only [codeB, Bool.and_eq_true] at h
    exact ⟨Nat.eq_of_beq_eq_true h.1.1, by simpa using h.1.2, ih hc h.2⟩
  | loop m l a ih =>
    intro code hc h
    cases code <;> first | (cases h; done) | skip
    exact ih hc h
  | exit i =>
    intro code hc h
    cases code <;> first | (cases h; done) | skip
    simp only [codeB, Bool.and_eq_true] at h
    exact ⟨Nat.eq_of_beq_eq_true h.1, by simpa using h.2⟩
  | ret => intro code _ h; cases code <;> first | trivial | cases h
  | dead => intro code hc h; cases code <;> trivial
  | goto l =>
    intro code hc h
    cases code <;> first | (cases h; done) | skip
    exact Nat.eq_of_beq_eq_true h
  | drop a ih =>
    intro code hc h
    have h : codeB tab hd L n a code = true := by cases code <;> exact h
    have := ih hc h
    cases code <;> exact this
  | scopeS a iha =>
    intro code hc h
    cases code <;> first | (cases h; done) | skip
    exact iha hc h
  | scope l a r iha ihr =>
    intro code hc h
    cases code <;> first | (cases h; done) | skip
    rename_i c
    simp only [codeB, Bool.and_eq_true] at h
    refine ⟨iha (fun sp hs => hc sp (List.mem_append.2 (.inl hs))) h.1, ?_⟩
    have h2 := h.2
    split at h2
    · rename_i b hb
      exact ⟨b, hb, ihr (fun sp hs => hc sp (List.mem_append.2 (.inr hs))) h2⟩
    · cases h2

/-! functions -/
def fnB (tab : Tab) (hd : List Nat) (fn : Func) (c : XC) (rs : List RV) (ps : List (Ty × Bool)) (r : Ty) : Bool :=
  (match fn.body with | some code => codeB tab hd (lentOf 0 ps) fn.ntmps c code | none => false) && rvMs tab rs fn.results.toList && Nat.ble ps.length fn.ntmps && ps.all (fun p => p.1.closed) && r.closed && !(fn.name == "runtime.NumGoroutine")
theorem fnB_sound (ht : TabOk P tab) (hF : EqFacts P hd) (hmix : P.follows .mixedOrders = true) {sp : FSpec} {fn : Func} {c : XC} {rs : List RV} (hf : P.funcs[sp.f]? = some fn) (hc : ∀ s ∈ c.calls, Meets P s) (hb : fnB tab hd fn c rs sp.ps sp.r = true)
    (hev : ∀ x y, sp.run x = some y → evFn c rs sp.ps sp.r x = some y) : Sound P sp := by
  simp only [fnB, Bool.and_eq_true, Nat.ble_eq, List.all_eq_true, Bool.not_eq_true'] at hb
  obtain ⟨⟨⟨⟨⟨h1, h2⟩, h3⟩, h4⟩, h5⟩, h6⟩ := hb
  split at h1
  · rename_i code hcode
    exact ⟨⟨fn, hf, by rw [hcode]; rfl, h6⟩, fun x y hx σ h w args hsz S => fn_ok ht hf hcode (codeB_ok ht hF hmix hc h1) h2 h3 (fun T hT => h4 _ hT) h5 (hev x y hx) σ h w args hsz S⟩
  · cases h1
end
end Go.Proofs.Bw
namespace Go.Proofs.Bw
open Go Go.RowKit

/-! plain data, as it comes in -/
def allL {α : Type} (p : α → Prop) (l : List α) : Prop := ∀ y ∈ l, p y
def Ty.wf : (T : Ty) → T.den → Prop
  | .int k, x => inK k x
  | .str, x => List.length (α := Int) x ≤ maxLen ∧ allL (α := Int) (inK .u8) x
  | .pair a b, x => a.wf x.1 ∧ b.wf x.2
  | .arr n e, x => List.length (α := e.den) x = n ∧ allL (α := e.den) e.wf x
  | .slB _ _ e, x => List.length (α := e.den) x ≤ maxLen ∧ allL (α := e.den) e.wf x
  | _, _ => True
theorem EList.forall {α : Type} {R : α → List Value → Prop} {Q : α → Prop} (k : ∀ x c, R x c → Q x) : ∀ {xs : List α} {cs : List Value}, EList R xs cs → ∀ x ∈ xs, Q x
  | [], _, _, x, hx => by cases hx
  | y :: xs, _, ⟨c, d, _, h1, h2⟩, x, hx => by
    rcases List.mem_cons.1 hx with rfl | hx
    · exact k _ _ h1
    · exact EList.forall k h2 x hx
theorem ints_wf (s : ByteArray) : ∀ n ∈ ints s, inK .u8 n := by
  intro n hn
  obtain ⟨b, _, rfl⟩ := List.mem_map.1 hn
  exact byte_in b
theorem Rel.wf {σ : Sg} {h : Hp} : ∀ {T : Ty} {x : T.den} {cs : List Value} {t : Tag}, Rel σ h T false x cs t → T.wf x := by
  intro T
  induction T with
  | int k => intro x cs t hr; simp only [Rel] at hr; exact hr.2
  | str =>
    intro x cs t hr
    simp only [Rel] at hr
    obtain ⟨s, _, e, hs⟩ := hr
    obtain ⟨x, rfl⟩ : ∃ l : List Int, l = x := ⟨x, rfl⟩
    simp only [Ty.wf]
    rw [← e]
    exact ⟨by rw [ints_length]; exact hs, ints_wf s⟩
  | pair a b iha ihb =>
    intro x cs t hr
    simp only [Rel] at hr
    obtain ⟨c, d, _, h1, h2⟩ := hr
    exact ⟨iha h1, ihb h2⟩
  | arr n e ih =>
    intro x cs t hr
    simp only [Rel] at hr
    exact ⟨hr.1, EList.forall (fun _ _ k => ih k) hr.2⟩
  | slB z c e ih =>
    intro x cs t hr
    simp only [Rel] at hr
    obtain ⟨a, len, cap, _, e2, e3, _, d, e5, _⟩ := hr
    exact ⟨by rw [← e3]; exact Nat.le_trans e2.1 e2.2.2.1, EList.forall (fun _ _ k => ih k) e5⟩
  | _ => intros; trivial

section
variable {P : Program} {tab : Tab} {H : Type} {enc : TypeId × Value → H} {w : World}
/-- every cell, as it stands -/
def allSg (w : World) : Sg := fun b j => w.cell? ⟨b, j, none⟩
def noHp : Hp := fun _ => none
theorem allInv (w : World) : Inv w (allSg w) noHp := ⟨fun b x cs h => (by cases h), fun b es t h => (by cases h), fun b x h => (by cases h), fun b j v h => h, fun b c x y h => (by cases h)⟩
/-- a type of the machine, as plain data -/
def tyB (tab : Tab) : Ty → (Nat ⊕ (List Field × Nat)) → Bool
  | .int k, .inl t => tabD tab t (descInt k)
  | .bool, .inl t => tabD tab t descBool
  | .str, .inl t => tabD tab t descStr
  | .slB .U false e, .inl t => Nat.ble 1 e.size && (match tab.get t with
    | some i => (match descSl i.desc with
      | some u => sizeIs tab u e.size && tyB tab e (.inl u)
      | none => false)
    | none => false)
  | .arr n e, .inl t => (match tab.get t with
    | some i => (match descArr i.desc with
      | some (m, u) => Nat.beq n m && sizeIs tab u e.size && tyB tab e (.inl u) && Nat.beq i.size (n * e.size)
      | none => false)
    | none => false)
  | .pair a b, .inl t => (match tab.get t with
    | some i => (match descFs i.desc with
      | some (f :: fs) => Nat.beq f.offset 0 && sizeIs tab f.type a.size && tyB tab a (.inl f.type) && tyB tab b (.inr (fs, a.size)) && Nat.beq i.size (a.size + b.size)
      | _ => false)
    | none => false)
  | .pair a b, .inr (f :: fs, off) => Nat.beq f.offset off && sizeIs tab f.type a.size && tyB tab a (.inl f.type) && tyB tab b (.inr (fs, off + a.size))
  | .unit, .inr ([], _) => true
  | _, _ => false
theorem sizeIs_ok (ht : TabOk P tab) {t n : Nat} (h : sizeIs tab t n = true) : P.cellsOf t = n := by
  unfold sizeIs at h
  split at h
  · rename_i i hi
    obtain ⟨_, j, g1, g2, _⟩ := ht t i hi
    simp [Program.cellsOf, g1, g2, Nat.eq_of_beq_eq_true h]
  · cases h
theorem elist_of {e : Ty} {σ : Sg} {h : Hp} {tg : Tag} {s : Nat} : ∀ (n : Nat) (f : Nat → List Value), (∀ i, i < n → (f i).length = s ∧ ∃ y : e.den, Rel σ h e false y (f i) tg) →
    ∃ ys : List e.den, ys.length = n ∧ EList (fun y c => Rel σ h e false y c tg) ys ((List.range n).flatMap f) := by
  intro n
  induction n with
  | zero => intro f _; exact ⟨[], rfl, rfl⟩
  | succ n ih =>
    intro f hf
    obtain ⟨ys, h1, h2⟩ := ih f (fun i hi => hf i (by omega))
    obtain ⟨_, y, hy⟩ := hf n (by omega)
    refine ⟨ys ++ [y], by simp [h1], ?_⟩
    rw [List.range_succ, List.flatMap_append]
    exact EList.append h2 ⟨f n, [], by simp, hy, rfl⟩
theorem range_flat_get {f : Nat → List Value} {s : Nat} : ∀ {n : Nat}, (∀ i, i < n → (f i).length = s) → ∀ k v, ((List.range n).flatMap f)[k]? = some v → ∃ i j, i < n ∧ k = i * s + j ∧ j < s ∧ (f i)[j]? = some v := by
  intro n
  induction n with
  | zero => intro _ k v hk; simp at hk
  | succ n ih =>
    intro hf k v hk
    have hlen : ((List.range n).flatMap f).length = n * s := by
      clear ih hk
      induction n with
      | zero => simp
      | succ n ih2 =>
        rw [List.range_succ, List.flatMap_append, List.length_append, ih2 (fun i hi => hf i (by omega))]
        simp [hf n (by omega), Nat.add_mul]
    rw [List.range_succ, List.flatMap_append] at hk
    by_cases hlt : k < n * s
    · rw [List.getElem?_append_left (by omega)] at hk
      obtain ⟨i, j, h1, h2, h3, h4⟩ := ih (fun i hi => hf i (by omega)) k v hk
      exact ⟨i, j, by omega, h2, h3, h4⟩
    · rw [List.getElem?_append_right (by omega), hlen] at hk
      simp only [List.flatMap_cons, List.flatMap_nil, List.append_nil] at hk
      have hl := (List.getElem?_eq_some_iff.1 hk).1
      rw [hf n (by omega)] at hl
      exact ⟨n, k - n * s, by omega, by omega, hl, hk⟩
theorem trod_rel (ht : TabOk P tab) {spare : Nat → Bool} {held : Bool} : ∀ {T : Ty} {q : Nat ⊕ (List Field × Nat)}, tyB tab T q = true →
    (∀ (t : TypeId), q = .inl t → ∀ {fuel : Nat} {cs : List Value} {x : DataW H × List MemPlace} (tg : Tag), DataW.trod enc P w 0 spare held fuel t cs = some x → ∃ y : T.den, Rel (allSg w) noHp T false y cs tg) ∧
    (∀ (fs : List Field) (off : Nat), q = .inr (fs, off) → ∀ {fuel : Nat} {cs : List Value} (tg : Tag), cs.length = off + T.size →
      (∀ f ∈ fs, ∃ y, DataW.trod enc P w 0 spare held fuel f.type ((cs.drop f.offset).take (P.cellsOf f.type)) = some y) → ∃ y : T.den, Rel (allSg w) noHp T false y (cs.drop off) tg) := by
  intro T
  induction T with
  | int k =>
    intro q hq
    cases q with
    | inr _ => cases hq
    | inl t0 =>
      refine ⟨fun t e fuel cs x tg hx => ?_, fun fs off e => by cases e⟩
      injection e with e
      subst e
      obtain ⟨d, hu, hd⟩ := tabD_ok ht hq
      rw [descInt_eq hd] at hu
      obtain ⟨n, rfl, _, hwf⟩ := DataW.trod_int hu hx
      refine ⟨n, ?_⟩
      simp only [Rel]
      refine ⟨trivial, ?_⟩
      simpa [Lit.wf, inK] using hwf
  | bool =>
    intro q hq
    cases q with
    | inr _ => cases hq
    | inl t0 =>
      refine ⟨fun t e fuel cs x tg hx => ?_, fun fs off e => by cases e⟩
      injection e with e
      subst e
      obtain ⟨d, hu, hd⟩ := tabD_ok ht hq
      rw [descBool_eq hd] at hu
      obtain ⟨n, rfl, _⟩ := DataW.trod_bool hu hx
      exact ⟨n, by simp only [Rel]⟩
  | str =>
    intro q hq
    cases q with
    | inr _ => cases hq
    | inl t0 =>
      refine ⟨fun t e fuel cs x tg hx => ?_, fun fs off e => by cases e⟩
      injection e with e
      subst e
      obtain ⟨d, hu, hd⟩ := tabD_ok ht hq
      rw [descStr_eq hd] at hu
      obtain ⟨s, rfl, _, hs⟩ := DataW.trod_string hu hx
      exact ⟨ints s, by simp only [Rel]; exact ⟨s, rfl, rfl, hs⟩⟩
  | unit =>
    intro q hq
    cases q with
    | inl _ => cases hq
    | inr p =>
      refine ⟨fun t e => (by cases e), fun fs off e fuel cs tg hl _ => ⟨(), ?_⟩⟩
      simp only [Rel]
      exact List.drop_eq_nil_of_le (by rw [hl]; exact Nat.le_refl _)
  | pair A B iha ihb =>
    intro q hq
    have step : ∀ (f : Field) (fs : List Field) (off : Nat), f.offset = off → sizeIs tab f.type A.size = true → tyB tab A (.inl f.type) = true → tyB tab B (.inr (fs, off + A.size)) = true → ∀ {fuel : Nat} {cs : List Value} (tg : Tag), cs.length = off + (A.size + B.size) →
        (∀ g ∈ f :: fs, ∃ y, DataW.trod enc P w 0 spare held fuel g.type ((cs.drop g.offset).take (P.cellsOf g.type)) = some y) → ∃ y : (A.pair B).den, Rel (allSg w) noHp (A.pair B) false y (cs.drop off) tg := by
      intro f fs off h1 h2 h3 h4 fuel cs tg hl hf
      obtain ⟨x, hx⟩ := hf f (by simp)
      rw [sizeIs_ok ht h2, h1] at hx
      obtain ⟨y1, r1⟩ := (iha h3).1 _ rfl (tg ++ [1]) hx
      obtain ⟨y2, r2⟩ := (ihb h4).2 fs _ rfl (cs := cs) (tg ++ [2]) (by rw [hl]; omega) (fun g hg => hf g (by simp [hg]))
      refine ⟨(y1, y2), ?_⟩
      simp only [Rel]
      exact ⟨_, _, by rw [← List.drop_drop, List.take_append_drop], r1, r2⟩
    cases q with
    | inl t0 =>
      refine ⟨fun t e fuel cs x tg hx => ?_, fun fs off e => by cases e⟩
      injection e with e
      subst e
      simp only [tyB] at hq
      split at hq
      · rename_i i hi
        split at hq
        · rename_i f fs hfs
          simp only [Bool.and_eq_true] at hq
          obtain ⟨⟨⟨⟨h1, h2⟩, h3⟩, h4⟩, h5⟩ := hq
          obtain ⟨hu, j, g1, g2, _⟩ := ht _ i hi
          rw [descFs_eq hfs] at hu
          obtain ⟨xs, n, rfl, _, hlen, hxl, hget⟩ := DataW.trod_struct hu hx
          have hsz : P.cellsOf t0 = A.size + B.size := by simp [Program.cellsOf, g1, g2, Nat.eq_of_beq_eq_true h5]
          have := step f fs 0 (Nat.eq_of_beq_eq_true h1) h2 h3 (by rw [Nat.zero_add]; exact h4) (fuel := n) (cs := cs) tg (by rw [hlen, hsz]; omega) (fun g hg => by
            obtain ⟨k, hk, hkg⟩ := List.getElem_of_mem hg
            have hk' : (⟨f :: fs⟩ : Array Field)[k]? = some g := by
              rw [← hkg]; simp [List.getElem?_eq_getElem hk]
            have h6 := hget k g hk'
            have hkx : k < xs.length := by rw [hxl]; exact hk
            exact ⟨xs[k], by rw [h6, List.getElem?_eq_getElem hkx]⟩)
          simpa using this
        · cases hq
      · cases hq
    | inr p =>
      obtain ⟨fs0, off0⟩ := p
      refine ⟨fun t e => (by cases e), fun fs off e fuel cs tg hl hf => ?_⟩
      injection e with e
      injection e with e1 e2
      subst e1 e2
      cases fs0 with
      | nil => cases hq
      | cons f fs =>
        simp only [tyB, Bool.and_eq_true] at hq
        exact step f fs off0 (Nat.eq_of_beq_eq_true hq.1.1.1) hq.1.1.2 hq.1.2 hq.2 tg hl hf
  | slB z c e ih =>
    intro q hq
    cases z <;> first | (cases q <;> cases hq; done) | skip
    cases c <;> first | (cases q <;> cases hq; done) | skip
    cases q with
    | inr _ => cases hq
    | inl t0 =>
      refine ⟨fun t et fuel cs x tg hx => ?_, fun fs off e => by cases e⟩
      injection et with et
      subst et
      simp only [tyB, Bool.and_eq_true, Nat.ble_eq] at hq
      obtain ⟨hes, hq⟩ := hq
      split at hq
      · rename_i i hi
        split at hq
        · rename_i u hdu
          simp only [Bool.and_eq_true] at hq
          obtain ⟨hu, _⟩ := ht _ i hi
          rw [descSl_eq hdu] at hu
          have hsz := sizeIs_ok ht hq.1
          rcases DataW.trod_slice hu hx with ⟨rfl, _⟩ | ⟨a, len, cap, elems, rest, n, rfl, rfl, _, _, hl, hm, hel, hget, _, _⟩
          · refine ⟨([] : List e.den), ?_⟩
            simp only [Rel]
            exact ⟨none, 0, 0, rfl, ⟨Nat.le_refl _, fun _ => rfl, Nat.zero_le _, trivial⟩, rfl, fun h => (by cases h), [], rfl, fun h => (h rfl).elim⟩
          · have hone : ∀ i, i < len → ∃ c, w.cells? 0 (a.add (i * e.size)) e.size = some c ∧ ∃ y : e.den, Rel (allSg w) noHp e false y c (tg ++ [3]) := by
              intro i hi
              have h1 := hget i hi
              rw [hsz, List.getElem?_eq_getElem (by omega)] at h1
              obtain ⟨c, h2, h3⟩ := Option.bind_eq_some_iff.1 h1
              exact ⟨c, h2, (ih hq.2).1 _ rfl _ h3⟩
            let f : Nat → List Value := fun i => (w.cells? 0 (a.add (i * e.size)) e.size).getD []
            have hf : ∀ i, i < len → w.cells? 0 (a.add (i * e.size)) e.size = some (f i) ∧ (f i).length = e.size ∧ ∃ y : e.den, Rel (allSg w) noHp e false y (f i) (tg ++ [3]) := by
              intro i hi
              obtain ⟨c, h1, h2⟩ := hone i hi
              have : f i = c := by simp [f, h1]
              rw [this]
              exact ⟨h1, (World.cells?_some h1).2.1, h2⟩
            obtain ⟨ys, y1, y2⟩ := elist_of len f (fun i hi => (hf i hi).2)
            refine ⟨ys, ?_⟩
            simp only [Rel]
            refine ⟨some a, len, cap, rfl, ⟨hl, fun h => (by cases h), hm, trivial⟩, y1.symm, fun h => (by cases h), _, y2, fun hne => ?_⟩
            have hlen0 : 0 < len := by
              apply Decidable.byContradiction
              intro h0
              have : len = 0 := by omega
              subst this
              exact hne rfl
            have hspot : a.spot = none := by
              have h1 := (World.cells?_some (hf 0 hlen0).1).2.2 0 (by omega)
              have h2 : (f 0)[0]? = some ((f 0)[0]'(by rw [(hf 0 hlen0).2.1]; omega)) := List.getElem?_eq_getElem _
              rw [h2] at h1
              unfold World.cell? at h1
              obtain ⟨b, off, sp⟩ := a
              cases sp with
              | none => rfl
              | some s =>
                exfalso
                simp only [Addr.add] at h1
                revert h1
                split <;> simp
            obtain ⟨b, off, sp⟩ := a
            have hspot : sp = none := hspot
            subst hspot
            refine ⟨b, off, rfl, fun j v hj => ?_⟩
            obtain ⟨i, k, h1, h2, h3, h4⟩ := range_flat_get (s := e.size) (fun i hi => (hf i hi).2.1) j v hj
            have h5 := (World.cells?_some (hf i h1).1).2.2 k h3
            rw [addr_add, addr_add, h4] at h5
            show w.cell? ⟨b, off + j, none⟩ = some v
            rw [h2, ← Nat.add_assoc]; exact h5
        · cases hq
      · cases hq
  | arr n e ih =>
    intro q hq
    cases q with
    | inr _ => cases hq
    | inl t0 =>
      refine ⟨fun t et fuel cs x tg hx => ?_, fun fs off e => by cases e⟩
      injection et with et
      subst et
      simp only [tyB] at hq
      split at hq
      · rename_i i hi
        split at hq
        · rename_i m u hdu
          simp only [Bool.and_eq_true] at hq
          obtain ⟨⟨⟨h1, h2⟩, h3⟩, h4⟩ := hq
          obtain ⟨hu, j, g1, g2, _⟩ := ht _ i hi
          rw [descArr_eq hdu] at hu
          have hnm := Nat.eq_of_beq_eq_true h1
          subst hnm
          have hsz := sizeIs_ok ht h2
          have hall : P.cellsOf t0 = n * e.size := by simp [Program.cellsOf, g1, g2, Nat.eq_of_beq_eq_true h4]
          cases fuel with
          | zero => simp [DataW.trod] at hx
          | succ k =>
            unfold DataW.trod at hx
            rw [hu] at hx
            simp only [] at hx
            split at hx
            · rename_i hlen
              rw [hall] at hlen
              cases hmm : (List.range n).mapM fun i => DataW.trod enc P w 0 spare held k u ((cs.drop (i * P.cellsOf u)).take (P.cellsOf u)) with
              | none => rw [hmm] at hx; cases hx
              | some xs =>
                have hone : ∀ i, i < n → ((cs.drop (i * e.size)).take e.size).length = e.size ∧ ∃ y : e.den, Rel (allSg w) noHp e false y ((cs.drop (i * e.size)).take e.size) (tg ++ [3]) := by
                  intro i hi
                  have h5 := mapM_some_get hmm i i (List.getElem?_range hi)
                  have hxl := mapM_some_length hmm
                  rw [List.length_range] at hxl
                  rw [List.getElem?_eq_getElem (by omega), hsz] at h5
                  obtain ⟨y, hy⟩ := (ih h3).1 _ rfl (tg ++ [3]) h5
                  exact ⟨Rel.length hy, y, hy⟩
                obtain ⟨ys, y1, y2⟩ := elist_of n (fun i => (cs.drop (i * e.size)).take e.size) hone
                refine ⟨ys, ?_⟩
                simp only [Rel]
                refine ⟨y1, ?_⟩
                have hfl : ∀ m, m ≤ n → (List.range m).flatMap (fun i => (cs.drop (i * e.size)).take e.size) = cs.take (m * e.size) := by
                  intro m
                  induction m with
                  | zero => intro _; simp
                  | succ m ihm =>
                    intro hm
                    rw [List.range_succ, List.flatMap_append, ihm (by omega)]
                    simp only [List.flatMap_cons, List.flatMap_nil, List.append_nil]
                    rw [Nat.add_mul, Nat.one_mul, List.take_add]
                rw [hfl n (Nat.le_refl _), List.take_of_length_le (by omega)] at y2
                exact y2
            · cases hx
        · cases hq
      · cases hq
  | _ => intro q hq; cases q <;> cases hq

/-- a value of a parameter: as an argument of the evaluator's -/
theorem arg_open (ht : TabOk P tab) {T : Ty} {t : TypeId} {v : Value} {d : DataW H} {ps : List MemPlace} {spare : Nat → Bool} {held : Bool} {r : Reach} {base : Nat} (hT : tyB tab T (.inl t) = true) (hv : Value.okWide P w r base t v) (h : DataW.Trod enc P w 0 spare held t v d ps) (tg : Tag) :
    ∃ y : T.den, VRel (allSg w) noHp T y v tg ∧ T.wf y := by
  obtain ⟨fuel, hf⟩ := h
  obtain ⟨y, hy⟩ := (trod_rel ht hT).1 t rfl tg hf
  refine ⟨y, ⟨v.cells.toList, ?_, hy⟩, Rel.wf hy⟩
  cases T <;> first | (cases hT; done) | skip
  case int k =>
    obtain ⟨dd, hu, hd⟩ := tabD_ok ht hT
    rw [descInt_eq hd] at hu
    obtain ⟨n, rfl⟩ := WideShapes.okWide_int hu hv
    rfl
  case bool =>
    obtain ⟨dd, hu, hd⟩ := tabD_ok ht hT
    rw [descBool_eq hd] at hu
    obtain ⟨n, rfl⟩ := WideShapes.okWide_bool hu hv
    rfl
  case str =>
    obtain ⟨dd, hu, hd⟩ := tabD_ok ht hT
    rw [descStr_eq hd] at hu
    obtain ⟨n, rfl⟩ := WideShapes.okWide_string hu hv
    rfl
  case slB z c e =>
    cases z <;> first | (cases hT; done) | skip
    cases c <;> first | (cases hT; done) | skip
    simp only [tyB, Bool.and_eq_true] at hT
    replace hT := hT.2
    split at hT
    · rename_i i hi
      split at hT
      · rename_i u hdu
        obtain ⟨hu, _⟩ := ht _ i hi
        rw [descSl_eq hdu] at hu
        obtain ⟨a, len, cap, rfl⟩ := WideShapes.okWide_slice hu hv
        rfl
      · cases hT
    · cases hT
  case arr n e =>
    simp only [tyB] at hT
    split at hT
    · rename_i i hi
      split at hT
      · rename_i m u hdu
        obtain ⟨hu, _⟩ := ht _ i hi
        rw [descArr_eq hdu] at hu
        unfold Value.okWide at hv
        rw [hu] at hv
        obtain ⟨cs, rfl, _⟩ := hv
        rfl
      · cases hT
    · cases hT
  case pair a b =>
    simp only [tyB] at hT
    split at hT
    · rename_i i hi
      split at hT
      · rename_i f fs hdu
        obtain ⟨hu, _⟩ := ht _ i hi
        rw [descFs_eq hdu] at hu
        unfold Value.okWide at hv
        rw [hu] at hv
        obtain ⟨cs, rfl, _⟩ := hv
        rfl
      · cases hT
    · cases hT

/-! a law's call -/
def ArgsRel (w : World) : Nat → (ps : List (Ty × Bool)) → (chain ps).den → List Value → Prop
  | _, [], _, vs => vs = []
  | i, (T, _) :: ps, x, vs => ∃ v r, vs = v :: r ∧ VRel (allSg w) noHp T x.1 v [i] ∧ ArgsRel w (i + 1) ps x.2 r
theorem argsRel_get : ∀ {ps : List (Ty × Bool)} {i : Nat} {x : (chain ps).den} {vs : List Value}, ArgsRel w i ps x vs → vs.length = ps.length ∧ ∀ j v, (initSt i ps x).get j = some v → ∃ k u, j = i + k ∧ vs[k]? = some u ∧ VRel (allSg w) noHp v.T v.x u [j] ∧ ∃ b, (v.T, b) ∈ ps
  | [], i, x, vs, h => by
    have : vs = [] := h
    subst this
    exact ⟨rfl, fun j v hj => by cases hj⟩
  | (T, b) :: ps, i, x, vs, h => by
    obtain ⟨v, r, rfl, h1, h2⟩ := h
    obtain ⟨g1, g2⟩ := argsRel_get h2
    refine ⟨by simp [g1], fun j u hj => ?_⟩
    simp only [initSt] at hj
    rw [get_cons] at hj
    split at hj
    · rename_i e
      injection hj with hj
      subst hj e
      exact ⟨0, v, rfl, rfl, h1, b, by simp⟩
    · obtain ⟨k, w', e1, e2, e3, b', e4⟩ := g2 j u hj
      exact ⟨k + 1, w', by omega, by simpa using e2, e3, b', by simp [e4]⟩
theorem law_calls {sp : FSpec} (hs : Sound P sp) (hps : sp.ps.all (fun p => p.1.pure) = true) {x : (chain sp.ps).den} {y : (rtOf sp.ps sp.r).den} (hx : sp.run x = some y) (hy : finSt 0 sp.ps sp.r y = [(sp.ps.length, some ⟨.bool, true⟩)]) {args : Array Value} (ha : ArgsRel w 0 sp.ps x args.toList) :
    Calls P sp.f args w fun e w' => e = .returned (.bool true) ∧ Below w.heap.size w w' := by
  obtain ⟨g1, g2⟩ := argsRel_get ha
  simp only [List.all_eq_true] at hps
  have hpure : ∀ j v, (initSt 0 sp.ps x).get j = some v → v.T.pure = true := fun j v hj => by
    obtain ⟨_, _, _, _, _, b, hb⟩ := g2 j v hj
    exact hps _ hb
  have hsz : args.size = sp.ps.length := by simpa using g1
  have S : SRel (allSg w) noHp (initSt 0 sp.ps x) args w := by
    refine ⟨allInv w, fun j v hj => ?_, fun j v hj => pure_okTop (hpure j v hj), fun j v u hj hu => (by rw [pure_looks (hpure j v hj)] at hu; cases hu), fun b blk hb => (by cases hb)⟩
    obtain ⟨k, u, e, hk, hr, _⟩ := g2 j v hj
    rw [Nat.zero_add] at e
    subst e
    rw [Array.getElem?_toList] at hk
    exact ⟨(Array.getElem?_eq_some_iff.1 hk).1, by rw [Array.getD_eq_getD_getElem?, hk]; exact hr⟩
  refine (hs.ok x y hx _ _ w args hsz S).mono ?_
  intro e w' he
  cases e with
  | returned v =>
    obtain ⟨σ', h', E, S'⟩ := he
    rw [hy] at S'
    obtain ⟨_, hv⟩ := S'.vals sp.ps.length ⟨.bool, true⟩ (by rw [get_cons, if_pos rfl])
    have hget : (args.push v).getD sp.ps.length undef = v := by
      rw [← hsz, Array.getD_eq_getD_getElem?, Array.getElem?_push_size]; rfl
    rw [hget] at hv
    have := VRel.bool_eq hv
    exact ⟨by rw [this], E.os, E.tape, E.out, E.size, fun k hk => (E.keep k hk rfl).1⟩
  | panicked _ => exact he.elim
  | outgrown => exact he.elim
end
end Go.Proofs.Bw
namespace Go.Proofs.Bw
open Go Go.RowKit

theorem lt_of_below {w w' : World} {b : Nat} (hb : Below w.heap.size w w') (hl : b < w.heap.size) : w'.heap[b]? = w.heap[b]? := hb.block b hl
theorem Inv.below {w w' : World} {σ : Sg} {h : Hp} (I : Inv w σ h) (hb : Below w.heap.size w w') : Inv w' σ h :=
  ⟨fun b blk cs h1 h2 => by rw [lt_of_below hb (I.lt h1)]; exact I.cells b blk cs h1 h2,
   fun b o t h1 => by rw [lt_of_below hb (I.lt h1)]; exact I.maps b o t h1, I.own,
   fun b j v h1 => by rw [hb.cell (p := ⟨b, j, none⟩) (I.ltσ h1)]; exact I.sta b j v h1, I.inj⟩

theorem fin2 {A B r : Ty} (hA : A.pure = true) (hB : B.pure = true) (hr : r.pure = true) {x : (chain [(A, false), (B, false)]).den} {σ : Sg} {h : Hp} {w w' : World} {args : Array Value} {y : r.den} {v : Value}
    (S : SRel σ h (initSt 0 [(A, false), (B, false)] x) args w) (hsz : args.size = 2) (hb : Below w.heap.size w w') (hv : VRel σ h r y v [2]) :
    ∃ σ' h', Ext w σ h w' σ' h' ∧ SRel σ' h' (finSt 0 [(A, false), (B, false)] r y) (args.push v) w' := by
  have hno : ∀ b blk, h b ≠ some blk := fun b blk hbk => by
    obtain ⟨k, q, _, u, hu, hp, _⟩ := S.own b blk hbk
    simp only [initSt, get_cons] at hu
    repeat' split at hu
    · injection hu with hu; subst hu; rw [hA] at hp; cases hp
    · injection hu with hu; subst hu; rw [hB] at hp; cases hp
    · cases hu
  refine ⟨σ, h, ⟨hb.size, σ.le_refl, hb.os, hb.tape, hb.output, fun b hl hn => ⟨lt_of_below hb hl, hn, fun _ => rfl⟩⟩, S.inv.below hb, fun s u hu => ?_, fun s u hu => ?_, fun s u t hu ht => ?_, fun b blk hbk => (hno b blk hbk).elim⟩
  · simp only [finSt, get_cons] at hu
    split at hu
    · rename_i e
      injection hu with hu
      subst hu
      simp only [Nat.zero_add, Nat.reduceAdd] at e
      subst e
      refine ⟨by simp [hsz], ?_⟩
      have : (args.push v).getD 2 undef = v := by rw [← hsz]; simp [Array.getD_eq_getD_getElem?]
      rw [this]
      exact hv
    · cases hu
  · simp only [finSt, get_cons] at hu
    split at hu
    · injection hu with hu
      subst hu
      exact pure_okTop hr
    · cases hu
  · simp only [finSt, get_cons] at hu
    split at hu
    · injection hu with hu
      subst hu
      have hl := pure_looks hr
      rw [hl] at ht
      cases ht
    · cases hu

/-! the first place of a byte -/
def ibsV : List Int → Int → Int
  | [], _ => -1
  | b :: l, c => if b = c then 0 else if ibsV l c = -1 then -1 else ibsV l c + 1
def ibsSp (f : FuncId) : FSpec := ⟨f, [(.str, false), (.int .u8, false)], .int .i64, fun x => some (ibsV x.1 x.2.1)⟩
theorem ibsV_eq {c : Int} (h0 : 0 ≤ c) (h1 : c ≤ 255) : ∀ l : List UInt8, Lib.indexByte l c.toNat.toUInt8 = ibsV (l.map fun b => (b.toNat : Int)) c
  | [] => rfl
  | b :: l => by
    have ih := ibsV_eq h0 h1 l
    simp only [Lib.indexByte, List.map_cons, ibsV, ih, beq_iff_eq]
    have : b = c.toNat.toUInt8 ↔ (b.toNat : Int) = c := by
      constructor
      · rintro rfl; simp; omega
      · intro e; apply UInt8.toNat_inj.1; simp; omega
    simp only [this]
theorem ibsV_le (c : Int) : ∀ l : List Int, -1 ≤ ibsV l c ∧ ibsV l c ≤ l.length
  | [] => by simp [ibsV]
  | b :: l => by
    have ih := ibsV_le c l
    simp only [ibsV, List.length_cons]
    repeat' split
    all_goals omega
theorem ibs_meets {P : Program} {f : FuncId} {fn : Func} (hf : P.funcs[f]? = some fn) (hname : (fn.name == "runtime.NumGoroutine") = false) (hb : fn.body.isNone = true) (hn : Extern.findNext fn = none)
    (he : Extern.find fn = some Extern.BytealgIndexByte.indexByte) : Meets P (ibsSp f) :=
  ⟨fun x y hx σ h w args hsz S => by
    obtain ⟨xs, c, u⟩ := x
    simp only [ibsSp] at hx hsz S
    injection hx with hx
    obtain ⟨_, k0⟩ := S.vals 0 ⟨.str, xs⟩ (by simp [initSt, get_cons])
    obtain ⟨_, k1⟩ := S.vals 1 ⟨.int .u8, c⟩ (by simp [initSt, get_cons])
    obtain ⟨s, e0, hs, hsl⟩ := VRel.str_eq k0
    obtain ⟨e1, hc⟩ := VRel.int_eq k1
    have hargs : args = #[.string s, .int .u8 c] := by
      apply Array.ext
      · simpa using hsz
      · intro i h1 h2
        simp [Array.getD_eq_getD_getElem?] at e0 e1
        have : i = 0 ∨ i = 1 := by simp at h2; omega
        rcases this with rfl | rfl
        · have h3 : args[0]? = some args[0] := Array.getElem?_eq_getElem h1
          rw [h3] at e0; simpa using e0
        · have h3 : args[1]? = some args[1] := Array.getElem?_eq_getElem h1
          rw [h3] at e1; simpa using e1
    refine .inr ⟨.int .i64 (Lib.indexByte s.data.toList c.toNat.toUInt8), w, ?_, ?_⟩
    · show (callFunc f args).run P w = _
      rw [hargs, run_callFunc_extern hf hname hb hn he]
      have := Lib.run_indexByteString (P := P) s (show Int from c) w
      exact congrArg (fun r => r.andThen fun v w' => Result.ok (Next.value v) w') this
    · have key : ∀ (c : Int) (xs : List Int), ints s = xs → inK .u8 c → VRel σ h (.int .i64) (ibsV xs c) (.int .i64 (Lib.indexByte s.data.toList c.toNat.toUInt8)) [2] := fun c xs hs hc => by
        have hc' : 0 ≤ c ∧ c ≤ 255 := hc
        rw [ibsV_eq hc'.1 hc'.2, show s.data.toList.map (fun b => (b.toNat : Int)) = xs from hs]
        have hl : (xs.length : Int) ≤ 9223372036854775807 := by
          have h1 : xs.length = s.size := by rw [← hs]; simp [ints]
          have h2 : maxLen = 9223372036854775807 := rfl
          omega
        have := ibsV_le c xs
        have hk : inK .i64 (ibsV xs c) := show -9223372036854775808 ≤ ibsV xs c ∧ ibsV xs c ≤ (9223372036854775807 : Int) from ⟨by omega, by omega⟩
        exact vrel_int hk _
      have hv : VRel σ h (.int .i64) y (.int .i64 (Lib.indexByte s.data.toList (show Int from c).toNat.toUInt8)) [2] := hx ▸ key c xs hs hc
      exact fin2 rfl rfl rfl S hsz (Below.refl _ _) hv⟩

/-! how often a byte stands in a text -/
def cntV : List Int → Int → Int
  | [], _ => 0
  | b :: l, c => if b = c then cntV l c + 1 else cntV l c
def cntSp (f : FuncId) : FSpec := ⟨f, [(.str, false), (.int .u8, false)], .int .i64, fun x => some (cntV x.1 x.2.1)⟩
theorem cntV_eq {c : Int} (h0 : 0 ≤ c) (h1 : c ≤ 255) : ∀ l : List UInt8, ((Lib.countByte l c.toNat.toUInt8 : Nat) : Int) = cntV (l.map fun b => (b.toNat : Int)) c
  | [] => rfl
  | b :: l => by
    have ih := cntV_eq h0 h1 l
    unfold Lib.countByte at ih ⊢
    simp only [List.map_cons, cntV, ← ih, List.count_cons, beq_iff_eq]
    have : b = c.toNat.toUInt8 ↔ (b.toNat : Int) = c := by
      constructor
      · rintro rfl; simp; omega
      · intro e; apply UInt8.toNat_inj.1; simp; omega
    simp only [this]
    split <;> simp
theorem cntV_le (c : Int) : ∀ l : List Int, 0 ≤ cntV l c ∧ cntV l c ≤ l.length
  | [] => by simp [cntV]
  | b :: l => by
    have ih := cntV_le c l
    simp only [cntV, List.length_cons]
    split <;> omega
theorem cnt_meets {P : Program} {f : FuncId} {fn : Func} (hf : P.funcs[f]? = some fn) (hname : (fn.name == "runtime.NumGoroutine") = false) (hb : fn.body.isNone = true) (hn : Extern.findNext fn = none)
    (he : Extern.find fn = some Extern.BytealgCount.count) : Meets P (cntSp f) :=
  ⟨fun x y hx σ h w args hsz S => by
    obtain ⟨xs, c, u⟩ := x
    simp only [cntSp] at hx hsz S
    injection hx with hx
    obtain ⟨_, k0⟩ := S.vals 0 ⟨.str, xs⟩ (by simp [initSt, get_cons])
    obtain ⟨_, k1⟩ := S.vals 1 ⟨.int .u8, c⟩ (by simp [initSt, get_cons])
    obtain ⟨s, e0, hs, hsl⟩ := VRel.str_eq k0
    obtain ⟨e1, hc⟩ := VRel.int_eq k1
    have hargs : args = #[.string s, .int .u8 c] := by
      apply Array.ext
      · simpa using hsz
      · intro i h1 h2
        simp [Array.getD_eq_getD_getElem?] at e0 e1
        have : i = 0 ∨ i = 1 := by simp at h2; omega
        rcases this with rfl | rfl
        · have h3 : args[0]? = some args[0] := Array.getElem?_eq_getElem h1
          rw [h3] at e0; simpa using e0
        · have h3 : args[1]? = some args[1] := Array.getElem?_eq_getElem h1
          rw [h3] at e1; simpa using e1
    refine .inr ⟨.int .i64 (Lib.countByte s.data.toList c.toNat.toUInt8), w, ?_, ?_⟩
    · show (callFunc f args).run P w = _
      rw [hargs, run_callFunc_extern hf hname hb hn he]
      have := Lib.run_countString (P := P) s (show Int from c) w
      exact congrArg (fun r => r.andThen fun v w' => Result.ok (Next.value v) w') this
    · have key : ∀ (c : Int) (xs : List Int), ints s = xs → inK .u8 c → VRel σ h (.int .i64) (cntV xs c) (.int .i64 (Lib.countByte s.data.toList c.toNat.toUInt8)) [2] := fun c xs hs hc => by
        have hc' : 0 ≤ c ∧ c ≤ 255 := hc
        rw [cntV_eq hc'.1 hc'.2, show s.data.toList.map (fun b => (b.toNat : Int)) = xs from hs]
        have hl : (xs.length : Int) ≤ 9223372036854775807 := by
          have h1 : xs.length = s.size := by rw [← hs]; simp [ints]
          have h2 : maxLen = 9223372036854775807 := rfl
          omega
        have := cntV_le c xs
        have hk : inK .i64 (cntV xs c) := show -9223372036854775808 ≤ cntV xs c ∧ cntV xs c ≤ (9223372036854775807 : Int) from ⟨by omega, by omega⟩
        exact vrel_int hk _
      have hv : VRel σ h (.int .i64) y (.int .i64 (Lib.countByte s.data.toList (show Int from c).toNat.toUInt8)) [2] := hx ▸ key c xs hs hc
      exact fin2 rfl rfl rfl S hsz (Below.refl _ _) hv⟩

/-! texts joined -/
def joinV : List (List Int) → List Int → List Int
  | [], _ => []
  | [x], _ => x
  | x :: y :: r, s => x ++ s ++ joinV (y :: r) s
def joinK (l : List (List Int)) (s : List Int) : Option (List Int) := if l.length ≤ 140737488355328 ∧ (joinV l s).length ≤ 281474976710656 then some (joinV l s) else none
def joinSp (f : FuncId) : FSpec := ⟨f, [(.slB .U false .str, false), (.str, false)], .str, fun x => joinK x.1 x.2.1⟩
end Go.Proofs.Bw
namespace Go.Proofs.Bw
open Go

def ti (d : TypeDesc) (i : TypeInfo) : TI := ⟨d, i.size, i.bytes, i.zero.getD (.bool false)⟩
section
variable {P : Program}
theorem TabOk.nil : TabOk P [] := fun _ _ h => by cases h
theorem TabOk.cons {t : Nat} {d : TypeDesc} {j : TypeInfo} {r : Tab} (hu : P.underlying t = some d) (hi : P.info? t = some j) (hz : j.zero.isSome = true) (k : TabOk P r) : TabOk P ((t, ti d j) :: r) := by
  intro u i h
  unfold Tab.get at h
  cases e : Nat.beq t u with
  | true =>
    rw [e] at h
    have := Nat.eq_of_beq_eq_true e
    subst this
    cases h
    refine ⟨hu, j, hi, rfl, rfl, ?_⟩
    show j.zero = some (j.zero.getD _)
    cases hj : j.zero with
    | none => rw [hj] at hz; cases hz
    | some z => rfl
  | false =>
    rw [e] at h
    exact k u i h
end
end Go.Proofs.Bw
namespace Go.Proofs.Bw
open Go

section
variable {R α : Type}
theorem idxK_at {xs : List α} {i : Int} {e : α} {K : α → Option R} (h0 : 0 ≤ i) (h : xs[i.toNat]? = some e) : idxK xs i K = K e := by
  simp [idxK, lnth, h0, h]
theorem sliceK_in {lo hi : Int} {n : Nat} {K : Option R} (h0 : 0 ≤ lo) (h1 : lo ≤ hi) (h2 : hi ≤ (n : Int)) : sliceK lo hi n K = K := by
  simp [sliceK, h0, h1, h2]
theorem appK_in {n m eb : Nat} {K : Option R} (h : (n + m) * eb ≤ 140737488355328) : appK n m eb K = K := by simp [appK, h]
theorem geK_in {b : Int} {K : Option R} (h : 0 ≤ b) : geK b K = K := by simp [geK, h]
theorem nzK_in {b : Int} {K : Option R} (h : b ≠ 0) : nzK b K = K := by simp [nzK, h]
theorem leK_in {n m : Nat} {K : Option R} (h : n ≤ m) : leK n m K = K := by simp [leK, h]
theorem both_eq {a : Option R} : both a a = a := by simp [both]
theorem u8_wrap (x : Int) : IntKind.wrap .u8 x = x % 256 := by simp [IntKind.wrap, IntKind.bits, IntKind.signed]
theorem u16_wrap (x : Int) : IntKind.wrap .u16 x = x % 65536 := by simp [IntKind.wrap, IntKind.bits, IntKind.signed]
theorem u32_wrap (x : Int) : IntKind.wrap .u32 x = x % 4294967296 := by simp [IntKind.wrap, IntKind.bits, IntKind.signed]
theorem u64_wrap (x : Int) : IntKind.wrap .u64 x = x % 18446744073709551616 := by simp [IntKind.wrap, IntKind.bits, IntKind.signed]
theorem i64_wrap {x : Int} (h : -9223372036854775808 ≤ x) (h2 : x < 9223372036854775808) : IntKind.wrap .i64 x = x := by
  simp [IntKind.wrap, IntKind.bits, IntKind.signed]
  split <;> omega
theorem i32_wrap {x : Int} (h : -2147483648 ≤ x) (h2 : x < 2147483648) : IntKind.wrap .i32 x = x := by
  simp [IntKind.wrap, IntKind.bits, IntKind.signed]
  split <;> omega
theorem u8_in {x : Int} : inK .u8 x ↔ 0 ≤ x ∧ x < 256 := by simp [inK, IntKind.min, IntKind.max, IntKind.signed, IntKind.bits]; omega
theorem u16_in {x : Int} : inK .u16 x ↔ 0 ≤ x ∧ x < 65536 := by simp [inK, IntKind.min, IntKind.max, IntKind.signed, IntKind.bits]; omega
theorem u32_in {x : Int} : inK .u32 x ↔ 0 ≤ x ∧ x < 4294967296 := by simp [inK, IntKind.min, IntKind.max, IntKind.signed, IntKind.bits]; omega
theorem u64_in {x : Int} : inK .u64 x ↔ 0 ≤ x ∧ x < 18446744073709551616 := by simp [inK, IntKind.min, IntKind.max, IntKind.signed, IntKind.bits]; omega
theorem i64_in {x : Int} : inK .i64 x ↔ -9223372036854775808 ≤ x ∧ x < 9223372036854775808 := by simp [inK, IntKind.min, IntKind.max, IntKind.signed, IntKind.bits]; omega
theorem shr_u32 {x : Int} {n : Nat} (hn : n ≤ 32) : ishr .u32 x n = x / 2 ^ n := by
  unfold ishr
  rw [show min n (IntKind.bits .u32) = n by simp [IntKind.bits]; omega]
  rw [Int.fdiv_eq_ediv_of_nonneg]
  exact Int.le_of_lt (Int.pow_pos (by decide))
theorem shr_i64 {x : Int} {n : Nat} (hn : n ≤ 64) : ishr .i64 x n = x / 2 ^ n := by
  unfold ishr
  rw [show min n (IntKind.bits .i64) = n by simp [IntKind.bits]; omega]
  rw [Int.fdiv_eq_ediv_of_nonneg]
  exact Int.le_of_lt (Int.pow_pos (by decide))
theorem or_u32 {a c : Int} {m : Nat} (ha : 0 ≤ a) (ha2 : a < 2 ^ m) (hc : 0 ≤ c) (hb : c * 2 ^ m + a < 4294967296) (hm : m ≤ 32) : ior .u32 a (ishl .u32 c m) = a + c * 2 ^ m := by
  obtain ⟨a, rfl⟩ := Int.eq_ofNat_of_zero_le ha
  obtain ⟨c, rfl⟩ := Int.eq_ofNat_of_zero_le hc
  have e : ((c : Int) * 2 ^ m) = ((c <<< m : Nat) : Int) := by rw [Nat.shiftLeft_eq]; simp
  have ha2 : a < 2 ^ m := by
    have : ((a : Int)) < ((2 ^ m : Nat) : Int) := by simpa using ha2
    exact Int.ofNat_lt.1 this
  have key := fun k : a < 2 ^ m => Nat.shiftLeft_add_eq_or_of_lt k c
  rw [e] at hb ⊢
  have key := key ha2
  obtain ⟨s, hs⟩ : ∃ s, s = c <<< m := ⟨_, rfl⟩
  rw [← hs] at hb key ⊢
  have hb : s + a < 4294967296 := by omega
  unfold ior ishl
  rw [show min m (IntKind.bits .u32) = m by simp [IntKind.bits]; omega, e, ← hs, u32_wrap, u32_wrap]
  have h1 : BitVec.ofInt (IntKind.bits .u32) (a : Int) = BitVec.ofNat 32 a := by simp [IntKind.bits]
  have h2 : BitVec.ofInt (IntKind.bits .u32) ((s : Int) % 4294967296) = BitVec.ofNat 32 s := by
    rw [show (s : Int) % 4294967296 = (s : Int) by omega]
    simp [IntKind.bits]
  rw [h1, h2]
  show ((BitVec.ofNat 32 a ||| BitVec.ofNat 32 s).toNat : Int) % 4294967296 = _
  rw [BitVec.toNat_or, BitVec.toNat_ofNat, BitVec.toNat_ofNat, Nat.mod_eq_of_lt (by omega), Nat.mod_eq_of_lt (by omega), Nat.or_comm, ← key]
  omega
theorem bind_some' {α β : Type} {f : α → Option β} {x : Option α} {y : α} (h : x = some y) : x.bind f = f y := by rw [h]; rfl
end
end Go.Proofs.Bw

/- The library of this work, part 4: an evaluator of annotated code, and that what it answers is what the machine does. No conditions. -/
import Derived.Test.YtpkpihcdbgckkaaBw3
import Derived.Great.BuildSlice
import Derived.Laws.MakeOwn
import Derived.Laws.BytesString
import Derived.Lib.ConvBytes
import Derived.Laws.Tables
set_option linter.unusedVariables false
set_option linter.unusedSimpArgs false
set_option linter.unnecessarySimpa false
namespace Go.Proofs.Bw
open Go

section
variable {P : Program} {R : Type} {σ : Sg} {h : Hp} {st : St} {a : Act} {w : World} {K : St → List Tag → Option R} {r : R} {o : Oper} {Q : Exit → Act → World → Prop} {tab : Tab}

def Bnd (v : Option Value) (dflt n y : Nat) : Prop := (v = none ∧ n = dflt) ∨ ∃ k, v = some (.int k (n : Int)) ∧ n ≤ y
theorem sliceBound_run {k : IntKind} {n y : Nat} {code : BoundsCode} (hn : n ≤ y) : (Instr.sliceBound (.int k (n : Int)) y code).run P w = .ok n w := by
  unfold Instr.sliceBound
  have h1 : (asIntOf (.int k (n : Int))).run P w = .ok (k, (n : Int)) w := rfl
  rw [Sem.run_bind, h1]
  simp only [Result.andThen_ok]
  rw [if_pos ⟨Int.natCast_nonneg _, by omega⟩]
  simp
theorem bounds_run {isSlice : Bool} {len cap l hh m : Nat} {lo hi mx : Option Value} (h1 : Bnd lo 0 l hh) (h2 : Bnd hi len hh m) (h3 : Bnd mx cap m cap) (h4 : mx ≠ none → hi ≠ none) : (Instr.sliceBounds isSlice len cap lo hi mx).run P w = .ok (l, hh, m) w := by
  unfold Instr.sliceBounds
  rcases h3 with ⟨rfl, rfl⟩ | ⟨k3, rfl, e3⟩
  · rcases h2 with ⟨rfl, rfl⟩ | ⟨k2, rfl, e2⟩
    · rcases h1 with ⟨rfl, rfl⟩ | ⟨k1, rfl, e1⟩
      · rfl
      · simp only [Sem.run_bind, Sem.run_pure, Result.andThen_ok, Option.isSome_none, sliceBound_run e1]
    · rcases h1 with ⟨rfl, rfl⟩ | ⟨k1, rfl, e1⟩
      · simp only [Sem.run_bind, Sem.run_pure, Result.andThen_ok, Option.isSome_none, sliceBound_run e2]
      · simp only [Sem.run_bind, Sem.run_pure, Result.andThen_ok, Option.isSome_none, sliceBound_run e2, sliceBound_run e1]
  · rcases h2 with ⟨rfl, rfl⟩ | ⟨k2, rfl, e2⟩
    · exact (h4 (by simp) rfl).elim
    · rcases h1 with ⟨rfl, rfl⟩ | ⟨k1, rfl, e1⟩
      · simp only [Sem.run_bind, Sem.run_pure, Result.andThen_ok, Option.isSome_some, sliceBound_run e3, sliceBound_run e2]
      · simp only [Sem.run_bind, Sem.run_pure, Result.andThen_ok, Option.isSome_some, sliceBound_run e3, sliceBound_run e2, sliceBound_run e1]
theorem slice_run {t e : TypeId} {i : TypeInfo} (hu : P.underlying t = some (.slice e)) (hinf : P.info? e = some i) {ad : Option Addr} {len cap l hh m : Nat} {lo hi mx : Option Value} (h1 : Bnd lo 0 l hh) (h2 : Bnd hi len hh m) (h3 : Bnd mx cap m cap) (h4 : mx ≠ none → hi ≠ none) :
    (Instr.slice t (.slice ad len cap) lo hi mx).run P w = .ok (.slice (if m = l then ad else ad.map (·.add (l * i.size))) (hh - l) (m - l)) w := by
  unfold Instr.slice
  have e1 : (underlying t).run P w = .ok (.slice e) w := by simp [underlying, hu]
  simp only [Sem.run_bind, e1, Result.andThen_ok, bounds_run h1 h2 h3 h4, sizeOf_run hinf]
  simp
theorem slice_run_str {t : TypeId} (hu : P.underlying t = some .string) {s : ByteArray} {l hh : Nat} {lo hi : Option Value} (h1 : Bnd lo 0 l hh) (h2 : Bnd hi s.size hh s.size) :
    (Instr.slice t (.string s) lo hi none).run P w = .ok (.string (s.extract l hh)) w := by
  unfold Instr.slice
  have e1 : (underlying t).run P w = .ok .string w := by simp [underlying, hu]
  have e2 := bounds_run (P := P) (w := w) (isSlice := false) (mx := none) h1 h2 (.inl ⟨rfl, rfl⟩) (fun hh => (hh rfl).elim)
  simp only [Sem.run_bind, e1, Result.andThen_ok]
  simp [e2]

def optOk : Option Opd → Option Operand → Bool
  | none, none => true
  | some o, some x => opdOk o x
  | _, _ => false
theorem opt_bnd (S : SRel σ h st a.tmps w) {b : Option Opd} {x : Option Operand} (hx : optOk b x = true) {dflt y : Nat} {i : Int} (hv : optOpd st.get (dflt : Int) b = some i) (h0 : 0 ≤ i) (hy : i ≤ (y : Int)) : Bnd (x.map a.eval) dflt i.toNat y := by
  cases b with
  | none =>
    cases x with
    | none => injection hv with hv; exact .inl ⟨rfl, by omega⟩
    | some _ => cases hx
  | some o =>
    cases x with
    | none => cases hx
    | some x =>
      simp only [optOpd] at hv
      cases hq : opI st.get o with
      | none => rw [hq] at hv; cases hv
      | some p =>
        obtain ⟨k, n⟩ := p
        rw [hq] at hv
        injection hv with hv
        subst hv
        obtain ⟨e1, _⟩ := opd_int S hx hq
        refine .inr ⟨k, ?_, by omega⟩
        simp only [Option.map_some, e1]
        congr 2
        omega
theorem opt_none {b : Option Opd} {x : Option Operand} (hx : optOk b x = true) : b = none ↔ x.map a.eval = none := by
  cases b <;> cases x <;> simp [optOk] at hx ⊢
theorem sliceK_some {lo hi : Int} {n : Nat} {K : Option R} (hk : sliceK lo hi n K = some r) : 0 ≤ lo ∧ lo ≤ hi ∧ hi ≤ (n : Int) ∧ K = some r := by
  unfold sliceK at hk
  split at hk
  · rename_i h1; exact ⟨h1.1, h1.2.1, h1.2.2, hk⟩
  · cases hk
theorem ints_extract (s : ByteArray) (l hh : Nat) : ints (s.extract l hh) = cut (ints s) (l : Int) (hh : Int) := by
  simp only [ints, cut, Int.toNat_natCast]
  rw [ByteArray.data_extract]
  rw [← List.map_take, ← List.map_drop]
  congr 1
  rw [Array.toList_extract, List.extract_eq_take_drop]
  rw [List.drop_take]

theorem zipNm_ok {z : Nm} {ad : Option Addr} {len cap l hh m : Nat} (hk : SlOk z ad len cap) (h1 : l ≤ hh) (h2 : hh ≤ m) (h3 : m ≤ cap) {f : Addr → Addr} : SlOk (zipNm z) (if m = l then ad else ad.map f) (hh - l) (m - l) := by
  obtain ⟨k1, k2, k3, k4⟩ := hk
  refine ⟨by omega, fun e => ?_, by omega, ?_⟩
  · split at e
    · omega
    · have : ad = none := by simpa using e
      have := k2 this; omega
  · cases z with
    | U => trivial
    | N => trivial
    | S =>
      show (if m = l then ad else ad.map f) ≠ none
      split
      · exact k4
      · intro e; exact k4 (by simpa using e)
theorem cut_length {α : Type} {xs : List α} {l hh : Int} (h0 : 0 ≤ l) (h1 : l ≤ hh) (h2 : hh ≤ (xs.length : Int)) : (cut xs l hh).length = hh.toNat - l.toNat := by
  unfold cut; rw [List.length_drop, List.length_take]; omega
theorem EList.drop {α : Type} {Rl : α → List Value → Prop} {n : Nat} (k : ∀ x c, Rl x c → c.length = n) : ∀ {xs : List α} {cs : List Value} (m : Nat), EList Rl xs cs → EList Rl (xs.drop m) (cs.drop (m * n))
  | xs, cs, 0, hh => by simpa using hh
  | [], cs, m + 1, hh => by have : cs = [] := hh; subst this; simp only [List.drop_nil]; exact rfl
  | x :: xs, cs, m + 1, hh => by
    obtain ⟨c, d, rfl, h1, h2⟩ := hh
    have hl := k _ _ h1
    have : (c ++ d).drop ((m + 1) * n) = d.drop (m * n) := by
      rw [show (m + 1) * n = c.length + m * n by rw [hl, Nat.add_mul]; omega, List.drop_append]
      simp
    rw [this, List.drop_succ_cons]
    exact EList.drop k m h2
theorem EList.take {α : Type} {Rl : α → List Value → Prop} {n : Nat} (k : ∀ x c, Rl x c → c.length = n) : ∀ {xs : List α} {cs : List Value} (m : Nat), EList Rl xs cs → EList Rl (xs.take m) (cs.take (m * n))
  | xs, cs, 0, hh => by simp only [Nat.zero_mul, List.take_zero]; exact rfl
  | [], cs, m + 1, hh => by have : cs = [] := hh; subst this; simp only [List.take_nil]; exact rfl
  | x :: xs, cs, m + 1, hh => by
    obtain ⟨c, d, rfl, h1, h2⟩ := hh
    have hl := k _ _ h1
    have : (c ++ d).take ((m + 1) * n) = c ++ d.take (m * n) := by
      rw [show (m + 1) * n = c.length + m * n by rw [hl, Nat.add_mul]; omega, List.take_append, List.take_of_length_le (by omega)]
      simp
    rw [this, List.take_succ_cons]
    exact ⟨c, _, rfl, h1, EList.take k m h2⟩
theorem EList.cut {α : Type} {Rl : α → List Value → Prop} {n : Nat} (k : ∀ x c, Rl x c → c.length = n) {xs : List α} {cs : List Value} (l hh : Int) (e : EList Rl xs cs) : EList Rl (Bw.cut xs l hh) ((cs.take (hh.toNat * n)).drop (l.toNat * n)) :=
  EList.drop k _ (EList.take k _ e)
def slcOk (tab : Tab) (t es : Nat) : Bool := match tab.get t with
  | some i => (match descSl i.desc with
    | some e => (match tab.get e with
      | some j => Nat.beq j.size es && Nat.ble 1 es
      | none => false)
    | none => descStr i.desc && Nat.beq es 0)
  | none => false
theorem slcOk_ok (ht : TabOk P tab) {t es : Nat} (hs : slcOk tab t es = true) : (P.underlying t = some .string ∧ es = 0) ∨ ∃ e j, P.underlying t = some (.slice e) ∧ P.info? e = some j ∧ j.size = es ∧ 1 ≤ es := by
  unfold slcOk at hs
  split at hs
  · rename_i i hi
    obtain ⟨hu, _⟩ := ht t i hi
    split at hs
    · rename_i e he
      split at hs
      · rename_i j hj
        obtain ⟨_, j', g1, g2, _⟩ := ht e j hj
        simp only [Bool.and_eq_true, Nat.ble_eq] at hs
        exact .inr ⟨e, j', by rw [hu, descSl_eq he], g1, by rw [g2]; exact Nat.eq_of_beq_eq_true hs.1, hs.2⟩
      · cases hs
    · simp only [Bool.and_eq_true] at hs
      exact .inl ⟨by rw [hu, descStr_eq hs.1], Nat.eq_of_beq_eq_true hs.2⟩
  · cases hs
theorem slB_cut {z : Nm} {cl cl' : Bool} {e : Ty} {xs : List e.den} {ad : Option Addr} {len cap l hh m : Nat} {t t' : Tag} (hr : Rel σ h (.slB z cl e) false xs [.slice ad len cap] t) (h1 : l ≤ hh) (h2 : hh ≤ len) (h3 : hh ≤ m) (h4 : m ≤ cap) (hc : cl' = true → m = hh) (ht : e.pure = true) :
    Rel σ h (.slB (zipNm z) cl' e) false (Bw.cut (α := e.den) xs (l : Int) (hh : Int)) [.slice (if m = l then ad else ad.map (·.add (l * e.size))) (hh - l) (m - l)] t' := by
  simp only [Rel] at hr ⊢
  obtain ⟨ad', len', cap', e1, e2, e3, e4, dd, e5, e6⟩ := hr
  injection e1 with e1 _
  injection e1 with g1 g2 g3
  subst g1 g2 g3
  have hl := EList.length (n := e.size) (fun _ _ hh => Rel.length hh) e5
  refine ⟨_, _, _, rfl, zipNm_ok e2 h1 h3 h4, ?_, fun hh' => by rw [hc hh'], _, EList.pureL σ.le_refl ht (EList.cut (n := e.size) (fun _ _ hh => Rel.length hh) (l : Int) (hh : Int) e5), fun hne => ?_⟩
  · rw [cut_length (by omega) (by omega) (by omega)]; simp
  · have hlt : l < hh := by
      apply Decidable.byContradiction
      intro hn
      apply hne
      have : hh = l := by omega
      subst this
      simp only [Int.toNat_natCast]
      apply List.drop_eq_nil_of_le
      rw [List.length_take]; omega
    have hdd : dd ≠ [] := fun e => hne (by rw [e]; simp)
    obtain ⟨b, off, f1, f2⟩ := e6 hdd
    refine ⟨b, off + l * e.size, by rw [if_neg (by omega), f1]; simp [addr_add], fun j v hj => ?_⟩
    simp only [Int.toNat_natCast] at hj
    rw [List.getElem?_drop, List.getElem?_take] at hj
    split at hj
    · rw [Nat.add_assoc]; exact f2 _ v hj
    · cases hj
theorem slV_cut {z : Nm} {e : Ty} {xs : List e.den} {u : Tag} {ad : Option Addr} {len cap l hh : Nat} {t t' : Tag} (hr : Rel σ h (.slV z u e) false xs [.slice ad len cap] t) (h1 : l ≤ hh) (h2 : hh ≤ len) (ht : e.pure = true) :
    Rel σ h (.slV (zipNm z) u e) false (Bw.cut (α := e.den) xs (l : Int) (hh : Int)) [.slice (if cap = l then ad else ad.map (·.add (l * e.size))) (hh - l) (cap - l)] t' := by
  simp only [Rel] at hr ⊢
  obtain ⟨ad', len', cap', e1, e2, e3, e4⟩ := hr
  injection e1 with e1 _
  injection e1 with g1 g2 g3
  subst g1 g2 g3
  have hle := e2.1
  refine ⟨_, _, _, rfl, zipNm_ok e2 h1 (by omega) (Nat.le_refl _), ?_, ?_⟩
  · rw [cut_length (by omega) (by omega) (by omega)]; simp
  · by_cases hlt : l < hh
    · rcases e4 with e4 | ⟨b, off, ch, f1, f2, f3, f4⟩
      · omega
      · right
        have hmul : len * e.size = hh * e.size + (len - hh) * e.size := by rw [← Nat.add_mul]; congr 1; omega
        have hmul2 : hh * e.size = l * e.size + (hh - l) * e.size := by rw [← Nat.add_mul]; congr 1; omega
        refine ⟨b, off + l * e.size, ch, by rw [if_neg (by omega), f1]; simp [addr_add], f2, by omega, ?_⟩
        have := EList.pureL (h' := h) (t' := t' ++ [3]) σ.le_refl ht (EList.cut (n := e.size) (fun _ _ hh => Rel.length hh) (l : Int) (hh : Int) f4)
        simp only [Int.toNat_natCast] at this
        have he : ((ch.drop off).take (len * e.size)).take (hh * e.size) = (ch.drop off).take (hh * e.size) := by
          rw [List.take_take]; congr 1; omega
        rw [he, List.drop_take, List.drop_drop] at this
        rw [show (hh - l) * e.size = hh * e.size - l * e.size by omega]
        exact this
    · exact .inl (by omega)
theorem exec_slice {t : TypeId} {x : Operand} {lo hi mx : Option Operand} (hop : o.op = .slice t x lo hi mx) (hu : P.underlying t = some .string ∨ ∃ e, P.underlying t = some (.slice e)) {v : Value} (hr : (Instr.slice t (a.eval x) (lo.map a.eval) (hi.map a.eval) (mx.map a.eval)).run P w = .ok v w) : (execOp a.eval o).run P w = .ok (.value v) w := by
  have hat : (Instr.sliceAt t (a.eval x) (lo.map a.eval) (hi.map a.eval) (mx.map a.eval)).run P w = .ok v w := by
    rcases hu with hu | ⟨e, hu⟩ <;> (unfold Instr.sliceAt; simp [run_underlying hu, hr])
  unfold execOp
  rw [hop]
  simp [hat]
theorem op_slc {d es : Nat} {b : Opd} {bl bh bm : Option Opd} {t : TypeId} {x : Operand} {lo hi mx : Option Operand} (ht : TabOk P tab) (S : SRel σ h st a.tmps w) (hop : o.op = .slice t x lo hi mx) (hd : dstOk a.tmps.size o d = true) (hx : opdOk b x = true) (hnc : ∀ u, b = .c u → u.T.okTop = true) (hnl : ∀ u, b = .c u → ∀ t, u.T.looks = some t → ∃ k r, t = k :: r ∧ Owns st k) (hmax : mx ≠ none → hi ≠ none)
    (hl : optOk bl lo = true) (hh : optOk bh hi = true) (hm : optOk bm mx = true) (hs : slcOk tab t es = true)
    (hK : evOp st.get K (.slc d b bl bh bm es) = some r) : o.wp P a w (Post σ h w st K r a) Q := by
  simp only [evOp] at hK
  have hbx : ∀ v, gpo st.get b = some v → ∃ tg, VRel σ h v.T v.x (a.eval x) tg ∧ v.T.okTop = true := fun v hv => by
    obtain ⟨tg, hr, hok, _⟩ := gpo_rel S hx hv
    refine ⟨tg, hr, ?_⟩
    rcases hok with hok | ⟨u, rfl⟩
    · exact hok
    · injection hv with hv; subst hv; exact hnc u rfl
  have hslc : ∀ {es : Nat}, slcOk tab t es = true → 1 ≤ es → ∃ e j, P.underlying t = some (.slice e) ∧ P.info? e = some j ∧ j.size = es := by
    intro es hs h1
    rcases slcOk_ok ht hs with ⟨_, h2⟩ | ⟨e, j, h2, h3, h4, _⟩
    · omega
    · exact ⟨e, j, h2, h3, h4⟩
  have hmx : bm = none → mx.map a.eval = none := fun h => (opt_none hm).1 h
  split at hK
  · -- a string
    rename_i xs l hb hlo
    split at hK
    · rename_i hi' hhi
      obtain ⟨hes, hK⟩ := bif_some hK
      have hes := Nat.eq_of_beq_eq_true hes
      subst hes
      obtain ⟨k0, k1, k2, hk⟩ := sliceK_some hK
      obtain ⟨tg, hr, _⟩ := hbx _ hb
      obtain ⟨xs, rfl⟩ : ∃ l : List Int, l = xs := ⟨xs, rfl⟩
      obtain ⟨s, e1, e2, e3⟩ := VRel.str_eq (x := xs) hr
      have hsz : xs.length = s.size := by rw [← e2]; simp [ints]
      have hun : P.underlying t = some .string := by
        rcases slcOk_ok ht hs with ⟨h1, _⟩ | ⟨e, j, h1, _, _, h2⟩
        · exact h1
        · omega
      have hB1 := opt_bnd S hl (dflt := 0) (y := hi'.toNat) hlo k0 (by omega)
      have hB2 := opt_bnd S hh (dflt := s.size) (y := s.size) (by rw [← hsz]; exact hhi) (by omega) (by omega)
      have hrun := slice_run_str (P := P) (w := w) hun hB1 hB2
      rw [← e1] at hrun
      refine wp_put_pure (v := ⟨.str, cut xs l hi'⟩) S hd hk (val := .string (s.extract l.toNat hi'.toNat)) (exec_slice hop (.inl hun) (by rw [hmx rfl]; exact hrun)) rfl rfl rfl rfl rfl (t := []) ⟨[_], rfl, ?_⟩
      simp only [Rel]
      refine ⟨_, rfl, ?_, ?_⟩
      · rw [ints_extract, e2]; congr 1 <;> omega
      · rw [ByteArray.size_extract]; omega
    · cases hK
  · -- a slice that is looked at
    rename_i z c e xs l hb hlo
    split at hK
    · rename_i hi' hhi
      obtain ⟨hes, hK⟩ := bif_some hK
      simp only [Bool.and_eq_true, Nat.ble_eq] at hes
      obtain ⟨k0, k1, k2, hk⟩ := sliceK_some hK
      obtain ⟨tg, ⟨cc, hw, hr⟩, hok⟩ := hbx _ hb
      have hep : e.pure = true := by simpa [Ty.okTop, Ty.closed] using hok
      have hr' := hr
      simp only [Rel] at hr'
      obtain ⟨ad, len, cap, e1, e2, e3, e4, _⟩ := hr'
      have hxv : a.eval x = .slice ad len cap := by have := slot_single rfl hw; rw [this] at e1; injection e1
      subst e1
      obtain ⟨et, j, hun, hinf, hj⟩ := hslc hs hes.2
      have hse := Nat.eq_of_beq_eq_true hes.1
      have hle := e2.1
      have hB1 := opt_bnd S hl (dflt := 0) (y := hi'.toNat) hlo k0 (by omega)
      have hB2 := opt_bnd S hh (dflt := len) (y := cap) (by rw [e3]; exact hhi) (by omega) (by omega)
      have hrun := slice_run (P := P) (w := w) (mx := none) (m := cap) hun hinf (ad := ad) (cap := cap) hB1 hB2 (.inl ⟨rfl, rfl⟩) (fun hh => (hh rfl).elim)
      rw [← hxv, hj, ← hse] at hrun
      have hcut := slB_cut (t' := [d]) (m := cap) (cl' := c && bh.isNone) hr (l := l.toNat) (hh := hi'.toNat) (by omega) (by omega) (by omega) (Nat.le_refl _) (fun hcl => by
        simp only [Bool.and_eq_true, Option.isNone_iff_eq_none] at hcl
        obtain ⟨h1, rfl⟩ := hcl
        have := e4 h1
        injection hhi with hhi
        omega) hep
      rw [show ((l.toNat : Nat) : Int) = l by omega, show ((hi'.toNat : Nat) : Int) = hi' by omega] at hcut
      exact wp_put_pure (v := ⟨.slB (zipNm z) (c && bh.isNone) e, cut (α := e.den) xs l hi'⟩) S hd hk (exec_slice hop (.inr ⟨et, hun⟩) (by rw [hmx rfl]; exact hrun)) rfl rfl rfl rfl hep ⟨_, rfl, hcut⟩
    · rename_i hi' bm' hhi
      cases hq : opI st.get bm' with
      | none => rw [hq] at hK; cases hK
      | some pm =>
        obtain ⟨km, m⟩ := pm
        rw [hq] at hK
        obtain ⟨hes, hK⟩ := bif_some hK
        simp only [Bool.and_eq_true, Nat.ble_eq] at hes
        unfold eqK at hK
        split at hK
        · rename_i hmh
          subst hmh
          obtain ⟨k0, k1, k2, hk⟩ := sliceK_some hK
          obtain ⟨tg, ⟨cc, hw, hr⟩, hok⟩ := hbx _ hb
          have hep : e.pure = true := by simpa [Ty.okTop, Ty.closed] using hok
          have hr' := hr
          simp only [Rel] at hr'
          obtain ⟨ad, len, cap, e1, e2, e3, e4, _⟩ := hr'
          have hxv : a.eval x = .slice ad len cap := by have := slot_single rfl hw; rw [this] at e1; injection e1
          subst e1
          obtain ⟨et, j, hun, hinf, hj⟩ := hslc hs hes.2
          have hse := Nat.eq_of_beq_eq_true hes.1
          have hle := e2.1
          have hB1 := opt_bnd S hl (dflt := 0) (y := m.toNat) hlo k0 (by omega)
          have hB2 := opt_bnd S hh (dflt := len) (y := m.toNat) (by rw [e3]; exact hhi) (by omega) (by omega)
          have hB3 := opt_bnd S hm (dflt := cap) (y := cap) (i := m) (by simp only [optOpd, hq]) (by omega) (by omega)
          have hne : hi.map a.eval ≠ none := fun h => by
            have := (opt_none (a := a) hh).2 h
            subst this
            cases mx with
            | none => cases hm
            | some mxx =>
              cases hi with
              | some _ => cases h
              | none => exact hmax (by simp) rfl
          have hrun := slice_run (P := P) (w := w) (m := m.toNat) hun hinf (ad := ad) (cap := cap) hB1 hB2 hB3 (fun _ => hne)
          rw [← hxv, hj, ← hse] at hrun
          have hcut := slB_cut (t' := [d]) (m := m.toNat) (cl' := true) hr (l := l.toNat) (hh := m.toNat) (by omega) (by omega) (Nat.le_refl _) (by omega) (fun _ => rfl) hep
          rw [show ((l.toNat : Nat) : Int) = l by omega, show ((m.toNat : Nat) : Int) = m by omega] at hcut
          exact wp_put_pure (v := ⟨.slB (zipNm z) true e, cut (α := e.den) xs l m⟩) S hd hk (exec_slice hop (.inr ⟨et, hun⟩) hrun) rfl rfl rfl rfl hep ⟨_, rfl, hcut⟩
        · cases hK
    · cases hK
  · -- a slice that lies elsewhere
    rename_i z u e xs l hb hlo
    split at hK
    · rename_i hi' hhi
      obtain ⟨hes, hK⟩ := bif_some hK
      simp only [Bool.and_eq_true, Nat.ble_eq] at hes
      obtain ⟨k0, k1, k2, hk⟩ := sliceK_some hK
      obtain ⟨tg, ⟨cc, hw, hr⟩, hok⟩ := hbx _ hb
      have hep : e.pure = true := by simpa [Ty.okTop] using hok
      have hr' := hr
      simp only [Rel] at hr'
      obtain ⟨ad, len, cap, e1, e2, e3, _⟩ := hr'
      have hxv : a.eval x = .slice ad len cap := by have := slot_single rfl hw; rw [this] at e1; injection e1
      subst e1
      obtain ⟨et, j, hun, hinf, hj⟩ := hslc hs hes.2
      have hse := Nat.eq_of_beq_eq_true hes.1
      have hle := e2.1
      have hB1 := opt_bnd S hl (dflt := 0) (y := hi'.toNat) hlo k0 (by omega)
      have hB2 := opt_bnd S hh (dflt := len) (y := cap) (by rw [e3]; exact hhi) (by omega) (by omega)
      have hrun := slice_run (P := P) (w := w) (mx := none) (m := cap) hun hinf (ad := ad) (cap := cap) hB1 hB2 (.inl ⟨rfl, rfl⟩) (fun hh => (hh rfl).elim)
      rw [← hxv, hj, ← hse] at hrun
      have hcut := slV_cut (t' := [d]) hr (l := l.toNat) (hh := hi'.toNat) (by omega) (by omega) hep
      rw [show ((l.toNat : Nat) : Int) = l by omega, show ((hi'.toNat : Nat) : Int) = hi' by omega] at hcut
      refine wp_put (v := ⟨.slV (zipNm z) u e, cut (α := e.den) xs l hi'⟩) S hd hk (exec_slice hop (.inr ⟨et, hun⟩) (by rw [hmx rfl]; exact hrun)) rfl rfl rfl rfl ⟨_, rfl, hcut⟩ (by simpa [Ty.okTop] using hep) (fun t ht => ?_)
      cases b with
      | t s => exact (gp_rel S hb).2.2 t ht
      | c u' => injection hb with hb; subst hb; have := hnc _ rfl; exact hnl _ rfl t ht
    · cases hK
  · cases hK
end
end Go.Proofs.Bw
namespace Go.Proofs.Bw
open Go

section
variable {P : Program} {R : Type} {σ : Sg} {h : Hp} {st : St} {a : Act} {w : World} {K : St → List Tag → Option R} {r : R} {o : Oper} {Q : Exit → Act → World → Prop} {tab : Tab}

def partsOk : Nat → List Opd → List (Nat × Operand) → Bool
  | _, [], [] => true
  | k, o :: r, (i, x) :: s => Nat.beq i k && opdOk o x && partsOk (k + 1) r s
  | _, _, _ => false
theorem partsOk_zip (a : Act) : ∀ {ps : List Opd} {xs : List (Nat × Operand)} {k : Nat}, partsOk k ps xs = true → xs.map (fun p => (p.1, a.eval p.2)) = ((xs.map fun p => a.eval p.2).zipIdx k).map (fun x => (x.2, x.1)) ∧ xs.length = ps.length
  | [], [], k, _ => ⟨rfl, rfl⟩
  | [], _ :: _, k, h => by cases h
  | _ :: _, [], k, h => by cases h
  | o :: r, (i, x) :: s, k, h => by
    simp only [partsOk, Bool.and_eq_true] at h
    obtain ⟨h1, h2⟩ := partsOk_zip a h.2
    have := Nat.eq_of_beq_eq_true h.1.1
    subst this
    refine ⟨?_, by simp [h2]⟩
    simp only [List.map_cons, List.zipIdx_cons, h1]
theorem opvs_rel (S : SRel σ h st a.tmps w) {e : Ty} (hep : e.pure = true) : ∀ {ps : List Opd} {xs : List (Nat × Operand)} {k : Nat} {l : List e.den}, partsOk k ps xs = true → opvs st.get e ps = some l →
    l.length = ps.length ∧ EList (fun y c => Rel σ h e false y c []) l ((xs.map fun p => a.eval p.2).flatMap fun v => v.cells.toList) ∧ ∀ v ∈ (xs.map fun p => a.eval p.2), v.cells.size = e.size
  | [], [], k, l, _, hv => by injection hv with hv; subst hv; exact ⟨rfl, rfl, fun v hv => by cases hv⟩
  | [], _ :: _, k, l, h, _ => by cases h
  | _ :: _, [], k, l, h, _ => by cases h
  | o :: r, (i, x) :: s, k, l, h, hv => by
    simp only [partsOk, Bool.and_eq_true] at h
    simp only [opvs] at hv
    cases ho : opv st.get o with
    | none => rw [ho] at hv; cases hv
    | some v =>
      cases hr : opvs st.get e r with
      | none => rw [ho, hr] at hv; cases hv
      | some l0 =>
        rw [ho, hr] at hv
        simp only [] at hv
        split at hv
        · rename_i hb
          injection hv with hv
          subst hv
          obtain ⟨h1, h2, h3⟩ := opvs_rel S hep h.2 hr
          obtain ⟨tg, c, hw, hrel⟩ := opd_rel S h.1.2 ho
          obtain ⟨T, y⟩ := v
          have := Ty.eq_of_beq hb
          subst this
          have hcl := wr_cells (solid_of_hard (hard_of_pure hep)) hw hrel
          have hlen := Rel.length hrel
          refine ⟨by simp [h1], ⟨c, _, ?_, Rel.pure σ.le_refl hep hrel, h2⟩, fun v hv => ?_⟩
          · simp only [List.map_cons, List.flatMap_cons, hcl]
          · simp only [List.map_cons, List.mem_cons] at hv
            rcases hv with rfl | hv
            · rw [hcl]; simpa using hlen
            · exact h3 v hv
        · cases hv
def bslOk (tab : Tab) (t es len : Nat) : Bool := match tab.get t with
  | some i => (match descSl i.desc with
    | some e => (match tab.get e with
      | some j => Nat.beq j.size es && Nat.ble 1 es && Nat.ble (len * es) 16777216
      | none => false)
    | none => false)
  | none => false
theorem bslOk_ok (ht : TabOk P tab) {t es len : Nat} (hs : bslOk tab t es len = true) : ∃ e j z, P.underlying t = some (.slice e) ∧ P.info? e = some j ∧ j.size = es ∧ j.zero = some z ∧ 1 ≤ es ∧ len * es ≤ 16777216 := by
  unfold bslOk at hs
  split at hs
  · rename_i i hi
    split at hs
    · rename_i e he
      split at hs
      · rename_i j hj
        simp only [Bool.and_eq_true, Nat.ble_eq] at hs
        obtain ⟨hu, _⟩ := ht t i hi
        obtain ⟨_, j', g1, g2, g3, g4⟩ := ht e j hj
        exact ⟨e, j', j.zero, by rw [hu, descSl_eq he], g1, g2.trans (Nat.eq_of_beq_eq_true hs.1.1), g4, hs.1.2, hs.2⟩
      · cases hs
    · cases hs
  · cases hs
theorem rowRel {e : Ty} {xs : List e.den} {cs : List Value} {d b n cap : Nat} {ws : List Value} {h' : Hp} (hep : e.pure = true) (hE : EList (fun y c => Rel σ h' e false y c []) xs cs) (hn : n = xs.length) (hc : n ≤ cap) (hm : cap ≤ maxLen) (hws : ws.length = cap * e.size) (htk : ws.take (n * e.size) = cs)
    (hb : h' b = some (.row ws [d])) : VRel σ h' (.slX .S e) xs (.slice (some ⟨b, 0, none⟩) n cap) [d] := by
  refine ⟨_, rfl, ?_⟩
  simp only [Rel]
  exact ⟨_, n, cap, rfl, ⟨hc, fun e => (by cases e), hm, by simp⟩, hn, .inr ⟨b, ws, rfl, hb, hws, by rw [htk]; exact EList.pureL σ.le_refl hep hE⟩⟩
theorem op_bsl {d len : Nat} {e : Ty} {ps : List Opd} {t : TypeId} {parts : Array (Nat × Operand)} (ht : TabOk P tab) (S : SRel σ h st a.tmps w) (hop : o.op = .buildSlice t len parts) (hd : dstOk a.tmps.size o d = true)
    (hs : bslOk tab t e.size len = true) (hp : partsOk 0 ps parts.toList = true) (hlen : len = ps.length) (hK : evOp st.get K (.bsl d e ps) = some r) : o.wp P a w (Post σ h w st K r a) Q := by
  simp only [evOp] at hK
  split at hK
  · rename_i l hl
    obtain ⟨hep, hK⟩ := bif_some hK
    obtain ⟨et, j, z, g1, g2, g3, g4, g5, g6⟩ := bslOk_ok ht hs
    obtain ⟨h1, h2, h3⟩ := opvs_rel S hep hp hl
    obtain ⟨z1, z2⟩ := partsOk_zip a hp
    have hparts : (parts.map fun p => (p.1, a.eval p.2)).toList = ((parts.toList.map fun p => a.eval p.2).zipIdx 0).map (fun x => (x.2, x.1)) := by
      rw [Array.toList_map]; exact z1
    have hexec : ∀ {v w'}, (Instr.buildSlice t len (parts.map fun p => (p.1, a.eval p.2))).run P w = .ok v w' → (execOp a.eval o).run P w = .ok (.value v) w' := by
      intro v w' hr
      unfold execOp
      rw [hop]
      simp [hr]
    have hflat : ((parts.toList.map fun p => a.eval p.2).flatMap fun v => v.cells.toList).length = len * e.size := by
      rw [EList.length (n := e.size) (fun _ _ hh => Rel.length hh) h2, h1, hlen]
    have hrun : (Instr.buildSlice t len (parts.map fun p => (p.1, a.eval p.2))).run P w = .ok (.slice (some ⟨w.heap.size, 0, none⟩) len len) (w.alloc (.cells ⟨(parts.toList.map fun p => a.eval p.2).flatMap fun v => v.cells.toList⟩ et)) := by
      by_cases h0 : len = 0
      · subst h0
        have hps : ps = [] := List.eq_nil_of_length_eq_zero hlen.symm
        have hpl : parts.toList = [] := List.eq_nil_of_length_eq_zero (by rw [z2, hps]; rfl)
        have hpp : parts = #[] := by apply Array.ext'; simpa using hpl
        subst hpp
        simp [Instr.buildSlice, run_underlying g1, sizeOf, typeInfo, g2, newRow, Instr.fill, Array.range_zero']
      · have hfw := Great.fill_whole (s := e.size) g5 (parts.toList.map fun p => a.eval p.2) ((Array.range (len * j.size)).map (z.cells[· % z.cells.size]!)) h3 (by rw [g3]; simp [z2, hlen])
        refine run_buildSlice w t et len _ _ j z g1 g2 g4 (by rw [g3]; omega) (by rw [g3]; intro hh; rcases Nat.mul_eq_zero.1 hh with hh | hh <;> omega) ?_
        rw [hparts, g3] at *
        rw [g3] at hfw
        exact hfw
    refine wp_new (v := ⟨.slX .S e, l⟩) (cs := (parts.toList.map fun p => a.eval p.2).flatMap fun v => v.cells.toList) (e := et) (lo := 0) (hi := 0) (blk := .row ((parts.toList.map fun p => a.eval p.2).flatMap fun v => v.cells.toList) [d]) S hd hK (hexec hrun) rfl (.inr (Nat.le_refl _)) rfl rfl rfl rfl rfl ?_ (by simpa [Ty.closed] using hep) rfl
    have hmul : len * 1 ≤ len * e.size := Nat.mul_le_mul_left _ g5
    exact rowRel hep (h2.imp fun _ _ hr => Rel.pure (h := h) σ.le_refl hep hr) (by rw [h1, hlen]) (Nat.le_refl _) (by simp only [maxLen]; omega) hflat (by rw [← hflat, List.take_length]) (by simp [Hp.add])
  · cases hK

theorem madeCells_list {z : Value} {s : Nat} (hs : 0 < s) (hz : z.cells.size = s) (n : Nat) : (madeCells z.cells (n * s)).toList = (List.replicate n z).flatMap fun v => v.cells.toList := by
  apply List.ext_getElem?
  intro k
  rw [Great.flat_get hs _ (fun v hv => by rw [(List.mem_replicate.1 hv).2]; exact hz) k]
  have hk : ∀ (hlt : k < n * s), k / s < n := fun hlt => (Nat.div_lt_iff_lt_mul hs).2 hlt
  simp only [madeCells, Array.toList_map, List.getElem?_map, Array.toList_range, List.getElem?_range', hz]
  by_cases hlt : k < n * s
  · have hm : k % s < z.cells.size := by rw [hz]; exact Nat.mod_lt _ hs
    simp [List.getElem?_range, hlt, hk hlt, List.getElem?_replicate, hm]
  · have h2 : ¬ k / s < n := fun hh => hlt ((Nat.div_lt_iff_lt_mul hs).1 hh)
    simp [List.getElem?_range, hlt, List.getElem?_replicate, h2]

def mkOk (tab : Tab) (t eb : Nat) (z : SV) : Bool := match tab.get t with
  | some i => (match descSl i.desc with
    | some e => (match tab.get e with
      | some j => Nat.beq j.size z.T.size && Nat.ble 1 z.T.size && Nat.beq j.bytes eb && litV z.T z.x j.zero && Nat.beq j.zero.cells.size z.T.size
      | none => false)
    | none => false)
  | none => false
theorem mkOk_ok (ht : TabOk P tab) {t eb : Nat} {z : SV} (hs : mkOk tab t eb z = true) : ∃ e j zv, P.underlying t = some (.slice e) ∧ P.info? e = some j ∧ j.size = z.T.size ∧ j.bytes = eb ∧ j.zero = some zv ∧ 1 ≤ z.T.size ∧ litV z.T z.x zv = true ∧ zv.cells.size = z.T.size := by
  unfold mkOk at hs
  split at hs
  · rename_i i hi
    split at hs
    · rename_i e he
      split at hs
      · rename_i j hj
        simp only [Bool.and_eq_true, Nat.ble_eq] at hs
        obtain ⟨hu, _⟩ := ht t i hi
        obtain ⟨_, j', g1, g2, g3, g4⟩ := ht e j hj
        exact ⟨e, j', j.zero, by rw [hu, descSl_eq he], g1, g2.trans (Nat.eq_of_beq_eq_true hs.1.1.1.1), g3.trans (Nat.eq_of_beq_eq_true hs.1.1.2), g4, hs.1.1.1.2, hs.1.2, Nat.eq_of_beq_eq_true hs.2⟩
      · cases hs
    · cases hs
  · cases hs
theorem EList.repl {α : Type} {Rl : α → List Value → Prop} {x : α} {c : List Value} (hx : Rl x c) : ∀ n, EList Rl (List.replicate n x) ((List.replicate n c).flatten)
  | 0 => rfl
  | n + 1 => ⟨c, _, by simp [List.replicate_succ], hx, EList.repl hx n⟩
theorem exec_mk {t : TypeId} {x y : Operand} (hop : o.op = .makeSlice t x y) {v : Value} {w' : World} (hr : (Instr.makeSlice t (a.eval x) (a.eval y)).run P w = .ok v w') : (execOp a.eval o).run P w = .ok (.value v) w' := by
  have e : execOp a.eval o = (do pure (Next.value (← Instr.makeSlice t (a.eval x) (a.eval y)))) := by
    unfold execOp
    rw [hop]
  rw [e, Sem.run_bind, hr]
  rfl
theorem op_mk {d eb : Nat} {z : SV} {bn bc : Opd} {t : TypeId} {x y : Operand} (ht : TabOk P tab) (S : SRel σ h st a.tmps w) (hop : o.op = .makeSlice t x y) (hd : dstOk a.tmps.size o d = true) (hx : opdOk bn x = true) (hy : opdOk bc y = true)
    (hs : mkOk tab t eb z = true) (hK : evOp st.get K (.mk d z bn bc eb) = some r) : o.wp P a w (Post σ h w st K r a) Q := by
  simp only [evOp] at hK
  split at hK
  · rename_i k1 n k2 c hn hc
    obtain ⟨hcc, hK⟩ := bif_some hK
    simp only [Bool.and_eq_true, Nat.ble_eq] at hcc
    obtain ⟨hp, heb⟩ := hcc
    unfold mkK at hK
    split at hK
    · rename_i hb
      obtain ⟨b0, b1, b2⟩ := hb
      obtain ⟨et, j, zv, g1, g2, g3, g4, g5, g6, g7, g8⟩ := mkOk_ok ht hs
      obtain ⟨e1, _⟩ := opd_int S hx hn
      obtain ⟨e2, _⟩ := opd_int S hy hc
      have hcn : c.toNat * 1 ≤ c.toNat * eb := Nat.mul_le_mul_left _ heb
      have hbz : (j.bytes : Int) * c ≤ 281474976710656 := by
        have e3 : c = (c.toNat : Int) := by omega
        rw [g4, e3]
        have : eb * c.toNat ≤ 281474976710656 := by rw [Nat.mul_comm]; omega
        have h2 : ((eb * c.toNat : Nat) : Int) ≤ 281474976710656 := by omega
        rwa [Int.natCast_mul] at h2
      have hrun := run_make (P := P) w t et j zv g1 g2 g5 k1 k2 n c b0 b1 hbz (by omega)
      have hexec : (execOp a.eval o).run P w = .ok (.value (.slice (some ⟨w.heap.size, 0, none⟩) n.toNat c.toNat)) (w.alloc (.cells (madeCells zv.cells (c.toNat * j.size)) et)) := by
        exact exec_mk hop (by rw [e1, e2]; exact hrun)
      obtain ⟨cs, hcs⟩ : ∃ cs : List Value, madeCells zv.cells (c.toNat * j.size) = ⟨cs⟩ := ⟨_, rfl⟩
      have hcs' : cs = (List.replicate c.toNat zv).flatMap fun v => v.cells.toList := by
        rw [← madeCells_list (s := j.size) (by omega) (by rw [g8, g3]) c.toNat, hcs]
      rw [hcs] at hexec
      obtain ⟨zc, hw, hr⟩ := litV_rel (σ := σ) (h := h.add w.heap.size (.row cs [d])) (t := []) g7
      have hzc := wr_cells (solid_of_hard (hard_of_pure hp)) hw hr
      have hzl : zc.length = z.T.size := Rel.length hr
      have hcs2 : cs = (List.replicate c.toNat zc).flatten := by
        rw [hcs', List.flatMap_replicate]
        simp [hzc]
      have hfl : ∀ m, ((List.replicate m zc).flatten).length = m * z.T.size := fun m => by simp [List.length_flatten, hzl]
      refine wp_new (v := ⟨.slX .S z.T, List.replicate n.toNat z.x⟩) (cs := cs) (e := et) (lo := 0) (hi := 0) (blk := .row cs [d]) S hd hK hexec rfl (.inr (Nat.le_refl _)) rfl rfl rfl rfl rfl ?_ (by simpa [Ty.closed] using hp) rfl
      refine rowRel (ws := cs) (cs := (List.replicate n.toNat zc).flatten) hp (EList.repl hr _) (by simp) (by omega) (by simp only [maxLen]; omega) (by rw [hcs2, hfl]) ?_ (by simp [Hp.add])
      have hsplit : c.toNat = n.toNat + (c.toNat - n.toNat) := by omega
      rw [hcs2, hsplit, ← List.replicate_append_replicate, List.flatten_append, List.take_append_of_le_length (by rw [hfl]; exact Nat.le_refl _), List.take_of_length_le (by rw [hfl]; exact Nat.le_refl _)]
    · cases hK
  · cases hK

/-! conversions -/
def descBytes (tab : Tab) (d : TypeDesc) : Bool := match descSl d with
  | some e => tabD tab e (descInt .u8)
  | none => false
theorem descBytes_ok (ht : TabOk P tab) {t : Nat} (hs : tabD tab t (descBytes tab) = true) : ∃ e, P.underlying t = some (.slice e) ∧ P.underlying e = some (.int .u8) := by
  obtain ⟨dd, hu, hd⟩ := tabD_ok ht hs
  unfold descBytes at hd
  split at hd
  · rename_i e he
    obtain ⟨d2, hu2, hd2⟩ := tabD_ok ht hd
    exact ⟨e, by rw [hu, descSl_eq he], by rw [hu2, descInt_eq hd2]⟩
  · cases hd
theorem op_cvtS2b {d : Nat} {b : Opd} {s t : TypeId} {x : Operand} (ht : TabOk P tab) (S : SRel σ h st a.tmps w) (hop : o.op = .convert s t x) (hd : dstOk a.tmps.size o d = true) (hx : opdOk b x = true)
    (hs : tabD tab s descStr = true) (hc : tabD tab t (descBytes tab) = true) (hK : evOp st.get K (.cvt d .s2b b) = some r) : o.wp P a w (Post σ h w st K r a) Q := by
  have hK : (match Cv.s2b, gpo st.get b with
    | .int k, some ⟨.int _, x⟩ => put st.get d ⟨.int k, k.wrap (x : Int)⟩ K
    | .b2s, some v => bif v.T.isStr then none else (match elems (.int .u8) v with
      | some l => put st.get d ⟨.str, l⟩ K
      | none => none)
    | .s2b, some ⟨.str, x⟩ => put st.get d ⟨.slX .S (.int .u8), x⟩ K
    | .same, some ⟨.str, x⟩ => put st.get d ⟨.str, x⟩ K
    | _, _ => none) = some r := hK
  rcases hb : gpo st.get b with _ | ⟨T, y⟩
  · rw [hb] at hK; cases hK
  · rw [hb] at hK
    cases T <;> first | cases hK | skip
    have hK : put st.get d ⟨.slX .S (.int .u8), y⟩ K = some r := hK
    obtain ⟨str, hxv, hxs, hsz⟩ := opd_str S hx (gpo_opv hb rfl)
    obtain ⟨et, g1, g2⟩ := descBytes_ok ht hc
    obtain ⟨ds, hds, _⟩ := tabD_ok ht hs
    have hrun := Lib.run_convert_string_bytes (P := P) w s t et str hds g1 g2
    have hexec : (execOp a.eval o).run P w = .ok (.value (.slice (some ⟨w.heap.size, 0, none⟩) str.size (grownCap w str.size 0 et))) (Lib.bytesWorld w et str) := by
      have hexec : ∀ {v w'}, (convert s t (a.eval x)).run P w = .ok v w' → (execOp a.eval o).run P w = .ok (.value v) w' := by
        intro v w' hr
        unfold execOp
        rw [hop]
        simp [hr]
      exact hexec (by rw [hxv]; exact hrun)
    obtain ⟨ws, hws⟩ : ∃ ws : List Value, Lib.bytesCells w et str = ⟨ws⟩ := ⟨_, rfl⟩
    have hws' : ws = (str.data.toList.map fun b => Value.int .u8 b.toNat) ++ List.replicate (grownCap w str.size 0 et - str.size) (.int .u8 0) := by
      have := congrArg Array.toList hws
      rw [← show (⟨ws⟩ : Array Value).toList = ws from rfl, ← this]
      simp [Lib.bytesCells]
    have hge := grownCap_ge w str.size 0 et
    have hcm := grownCap_le_maxLen w str.size 0 et hsz
    have hlen : ws.length = grownCap w str.size 0 et * 1 := by
      rw [hws']; simp; omega
    have hheap : (Lib.bytesWorld w et str).heap = w.heap.push (.cells ⟨ws⟩ et (ws.length, ws.length + 1)) := by
      apply Array.ext_getElem?
      intro j
      rcases Nat.lt_trichotomy j w.heap.size with hj | hj | hj
      · rw [Lib.bytesWorld_at_old w et str j hj, Array.getElem?_push_lt hj]; exact Array.getElem?_eq_getElem hj
      · subst hj
        rw [Lib.bytesWorld_at_new, hws, Array.getElem?_push_size]; rfl
      · have h1 := Lib.bytesWorld_size w et str
        rw [Array.getElem?_eq_none (by omega), Array.getElem?_eq_none (by simp; omega)]
    obtain ⟨y, rfl⟩ : ∃ l : List Int, l = y := ⟨y, rfl⟩
    have hE : ∀ (l : List UInt8) (h' : Hp), EList (fun y c => Rel σ h' (.int .u8) false y c []) (l.map fun b => (b.toNat : Int)) (l.map fun b => Value.int .u8 b.toNat) := by
      intro l h'
      induction l with
      | nil => exact rfl
      | cons b l ih =>
        refine ⟨[.int .u8 b.toNat], _, rfl, ?_, ih⟩
        simp only [Rel]
        exact ⟨by trivial, byte_in b⟩
    have hwos : (Lib.bytesWorld w et str).os = w.os ∧ (Lib.bytesWorld w et str).tape = w.tape ∧ (Lib.bytesWorld w et str).output = w.output := ⟨rfl, rfl, rfl⟩
    refine wp_new (v := ⟨.slX .S (.int .u8), y⟩) (cs := ws) (e := et) (lo := ws.length) (hi := ws.length + 1) (blk := .row ws [d]) S hd hK hexec hheap (.inl (Nat.le_refl _)) hwos.1 hwos.2.1 hwos.2.2 rfl rfl ?_ rfl rfl
    refine rowRel (ws := ws) (cs := str.data.toList.map fun b => Value.int .u8 b.toNat) (n := str.size) rfl (by rw [← hxs]; exact hE _ _) (by rw [← hxs]; exact ints_length.symm) (by omega) hcm hlen ?_ (by simp [Hp.add])
    rw [hws', List.take_append_of_le_length (by simp [Ty.size]), List.take_of_length_le (by simp [Ty.size])]

theorem bytes_rel : ∀ {l : List Int} {news : List Value} {tg : Tag}, EList (fun y c => Rel σ h (.int .u8) false y c tg) l news → news = l.map (Value.int .u8) ∧ ∀ n ∈ l, inK .u8 n
  | [], news, tg, hh => ⟨hh, fun n hn => by cases hn⟩
  | x :: l, news, tg, hh => by
    obtain ⟨c, d, rfl, h1, h2⟩ := hh
    obtain ⟨e1, e2⟩ := bytes_rel h2
    simp only [Rel] at h1
    obtain ⟨rfl, h1⟩ := h1
    refine ⟨by rw [e1]; rfl, fun n hn => ?_⟩
    rcases List.mem_cons.1 hn with rfl | hn
    · exact h1
    · exact e2 n hn
theorem pushes_ints : ∀ (l : List Int) (s : ByteArray), (∀ n ∈ l, inK .u8 n) → ints (l.foldl (fun r n => r.push (UInt8.ofNat n.toNat)) s) = ints s ++ l ∧ True
  | [], s, _ => ⟨by simp, trivial⟩
  | x :: l, s, hh => by
    refine ⟨?_, trivial⟩
    rw [List.foldl_cons, (pushes_ints l _ fun n hn => hh n (by simp [hn])).1]
    have hx := hh x (by simp)
    have h0 : 0 ≤ x ∧ x ≤ 255 := hx
    have : ints (s.push (UInt8.ofNat x.toNat)) = ints s ++ [x] := by
      simp only [ints]
      have : (s.push (UInt8.ofNat x.toNat)).data = s.data.push (UInt8.ofNat x.toNat) := by cases s; rfl
      rw [this]
      simp
      omega
    rw [this]; simp
theorem op_cvtB2s {d : Nat} {b : Opd} {s t : TypeId} {x : Operand} (ht : TabOk P tab) (S : SRel σ h st a.tmps w) (hop : o.op = .convert s t x) (hd : dstOk a.tmps.size o d = true) (hx : opdOk b x = true) (hnc : ∀ u, b = .c u → u.T.okTop = true)
    (hs : tabD tab t descStr = true) (hc : tabD tab s (descBytes tab) = true) (hK : evOp st.get K (.cvt d .b2s b) = some r) : o.wp P a w (Post σ h w st K r a) Q := by
  simp only [evOp] at hK
  have hK : (match gpo st.get b with
    | some v => bif v.T.isStr then none else (match elems (.int .u8) v with
      | some l => put st.get d ⟨.str, l⟩ K
      | none => none)
    | none => none) = some r := by
    cases hb : gpo st.get b with
    | none => rw [hb] at hK; cases hK
    | some v => rw [hb] at hK; exact hK
  cases hb : gpo st.get b with
  | none => rw [hb] at hK; cases hK
  | some v =>
    rw [hb] at hK
    simp only [] at hK
    obtain ⟨hns, hK⟩ := bif_none hK
    cases hl : elems (.int .u8) v with
    | none => rw [hl] at hK; cases hK
    | some l =>
      rw [hl] at hK
      simp only [] at hK
      obtain ⟨news, tg, n1, n2, _⟩ := src_of S hx hnc hb hl
      obtain ⟨et, g1, g2⟩ := descBytes_ok ht hc
      obtain ⟨ds, hds, hds2⟩ := tabD_ok ht hs
      rw [descStr_eq hds2] at hds
      obtain ⟨m1, m2⟩ := n2 w rfl
      have hsl : ∃ ad len cap, a.eval x = .slice ad len cap ∧ len ≤ maxLen := by
        obtain ⟨tg', ⟨cc, hw, hr⟩, hx9⟩ := gpo_rel S hx hb
        clear hx9
        obtain ⟨T, y⟩ := v
        cases T <;> first | (cases hns; done) | (cases hl; done) | skip
        · simp only [Rel] at hr
          obtain ⟨ad, len, cap, e1, e2, _⟩ := hr
          exact ⟨ad, len, cap, by have := slot_single rfl hw; rw [this] at e1; injection e1, Nat.le_trans e2.1 e2.2.2.1⟩
        · simp only [Rel] at hr
          obtain ⟨ad, len, cap, e1, e2, _⟩ := hr
          exact ⟨ad, len, cap, by have := slot_single rfl hw; rw [this] at e1; injection e1, Nat.le_trans e2.1 e2.2.2.1⟩
        · rename_i k
          rcases k with _ | k
          · simp only [Rel, nilVal] at hr
            exact ⟨none, 0, 0, by have := slot_single rfl hw; rw [this] at hr; injection hr, Nat.zero_le _⟩
          · cases hl
      obtain ⟨ad, len, cap, hxv, hlm⟩ := hsl
      rw [hxv] at m1 m2
      have hlen : len = l.length := by
        have : (Builtin.lenOf (.slice ad len cap)).run P w = .ok len w := rfl
        rw [this] at m1
        injection m1
      subst hlen
      obtain ⟨hnews, hin⟩ := bytes_rel n1
      obtain ⟨str, hstr, hints, hrun⟩ : ∃ str : ByteArray, str.size = l.length ∧ ints str = l ∧ (Conv.bytesToString (.slice ad l.length cap)).run P w = .ok (.string str) w := by
        obtain ⟨p1, p2⟩ := pushes_ints l ByteArray.empty hin
        cases ad with
        | none =>
          have : (Builtin.firstCells (Ty.int IntKind.u8).size l.length (.slice none l.length cap)).run P w = .ok #[] w := rfl
          rw [this] at m2
          injection m2 with m2
          have hn : news = [] := by
            have := congrArg Array.toList m2
            simpa using this.symm
          have hl0 : l = [] := by
            rw [hnews] at hn
            exact List.map_eq_nil_iff.1 hn
          refine ⟨.empty, by rw [hl0]; rfl, by rw [hl0]; rfl, rfl⟩
        | some ad =>
          refine ⟨_, ?_, p1, run_bytesToString w ad l.length cap l ?_⟩
          · rw [← ints_length, p1]; rfl
          · have : (loadCells ad (l.length * 1)).run P w = .ok ⟨news⟩ w := m2
            rw [Nat.mul_one] at this
            rw [this, hnews]
      have hexec : (execOp a.eval o).run P w = .ok (.value (.string str)) w := by
        have hcv : (convert s t (a.eval x)).run P w = .ok (.string str) w := by
          rw [hxv]
          cases ad with
          | none => simp [convert, run_underlying g1, run_underlying hds, run_underlying g2, hrun]
          | some ad => simp [convert, run_underlying g1, run_underlying hds, run_underlying g2, hrun]
        unfold execOp
        rw [hop]
        simp [hcv]
      refine wp_put_pure (v := ⟨.str, l⟩) S hd hK hexec rfl rfl rfl rfl rfl (t := []) ⟨[_], rfl, ?_⟩
      simp only [Rel]
      exact ⟨str, rfl, hints, by rw [hstr]; exact hlm⟩
end
end Go.Proofs.Bw
namespace Go.Proofs.Bw
open Go

section
variable {P : Program} {R : Type} {σ : Sg} {h : Hp} {st : St} {a : Act} {w : World} {K : St → List Tag → Option R} {r : R} {o : Oper} {Q : Exit → Act → World → Prop} {tab : Tab}

def fpath (n : Nat) : Tag := List.replicate n 2 ++ [1]
theorem fpath_succ (n : Nat) : fpath (n + 1) = 2 :: fpath n := rfl
theorem tup_get : ∀ {T : Ty} {x : T.den} {n : Nat} {v : SV} {vs : List Value} {t : Tag}, fieldV T x n = some v → Rel σ h T true x vs t → ∃ val, vs[n]? = some val ∧ VRel σ h v.T v.x val (t ++ fpath n) := by
  intro T
  induction T with
  | pair A B _ ihb =>
    intro x n v vs t hf hr
    simp only [Rel] at hr
    obtain ⟨u, d, rfl, ⟨c, hw, h1⟩, h2⟩ := hr
    cases n with
    | zero =>
      simp only [fieldV, Option.some.injEq] at hf
      subst hf
      exact ⟨u, rfl, c, hw, h1⟩
    | succ n =>
      simp only [fieldV] at hf
      obtain ⟨val, e1, e2⟩ := ihb hf h2
      refine ⟨val, by simpa using e1, ?_⟩
      rw [fpath_succ]
      have e : t ++ 2 :: fpath n = t ++ [2] ++ fpath n := by simp
      rw [e]; exact e2
  | _ => intro x n v vs t hf; simp [fieldV] at hf
theorem tup_closed : ∀ {T : Ty} {x : T.den} {n : Nat} {v : SV}, fieldV T x n = some v → T.closed = true → v.T.closed = true := by
  intro T
  induction T with
  | pair A B _ ihb =>
    intro x n v hf hc
    simp only [Ty.closed, Bool.and_eq_true] at hc
    cases n with
    | zero => simp only [fieldV, Option.some.injEq] at hf; subst hf; exact hc.1
    | succ n => simp only [fieldV] at hf; exact ihb hf hc.2
  | _ => intro x n v hf; simp [fieldV] at hf
theorem tup_any : ∀ {T : Ty} {x : T.den} {n : Nat} {w : SV} {vs : List Value} {t : Tag} {h' : Hp}, setF T x n ⟨.any, ()⟩ = some w → T.closed = true → Rel σ h T true x vs t →
    (∀ b blk r, h b = some blk → blk.tag = t ++ r → isPre (fpath n) r = false → h' b = some blk) → Rel σ h' w.T true w.x vs t ∧ w.T.closed = true := by
  intro T
  induction T with
  | pair A B _ ihb =>
    intro x n w vs t h' hs hc hr hk
    simp only [Rel] at hr
    obtain ⟨u, d, rfl, ⟨c, hw, h1⟩, h2⟩ := hr
    simp only [Ty.closed, Bool.and_eq_true] at hc
    cases n with
    | zero =>
      simp only [setF] at hs
      obtain ⟨he, hs⟩ := bif_some hs
      simp only [Bool.and_eq_true] at he
      injection hs with hs
      subst hs
      refine ⟨?_, by simp only [Ty.closed, hc.2, Bool.and_self]⟩
      simp only [Rel]
      refine ⟨u, d, rfl, ⟨[u], rfl, u, rfl⟩, Rel.move σ.le_refl hc.2 (fun b blk r hb ht => ?_) h2⟩
      rw [hk b blk ([2] ++ r) hb (by rw [ht]; simp) rfl, ← ht]
      cases blk <;> rfl
    | succ n =>
      simp only [setF] at hs
      split at hs
      · rename_i w' hw'
        injection hs with hs
        subst hs
        obtain ⟨k1, k2⟩ := ihb (h' := h') hw' hc.2 h2 (fun b blk r hb ht hp => hk b blk ([2] ++ r) hb (by rw [ht]; simp) (by
          rw [fpath_succ]; simpa [isPre] using hp))
        refine ⟨?_, by simp only [Ty.closed, hc.1, k2, Bool.and_self]⟩
        simp only [Rel]
        refine ⟨u, d, rfl, ⟨c, hw, Rel.move σ.le_refl hc.1 (fun b blk r hb ht => ?_) h1⟩, k1⟩
        rw [hk b blk ([1] ++ r) hb (by rw [ht]; simp) rfl, ← ht]
        cases blk <;> rfl
      · cases hs
  | arr m e =>
    intro x n w vs t h' hs hc hr hk
    simp only [setF] at hs
    split at hs
    · rename_i hb
      have := Ty.eq_of_beq hb
      subst this
      simp [Ty.closed, Ty.pure] at hc
    · cases hs
  | _ => intro x n w vs t h' hs; simp [setF] at hs

theorem op_ext {d s n : Nat} {x : Operand} (S : SRel σ h st a.tmps w) (hop : o.op = .extract x n) (hd : dstOk a.tmps.size o d = true) (hx : opdOk (.t s) x = true)
    (hK : evOp st.get K (.ext d s n) = some r) : o.wp P a w (Post σ h w st K r a) Q := by
  have hev := opdT_eval (a := a) hx
  simp only [evOp] at hK
  split at hK
  · rename_i T y hs
    obtain ⟨hsl, cs, hw, hr⟩ := S.vals s _ hs
    have hcl : T.closed = true := by simpa [Ty.okTop, Ty.closed] using S.typ s _ hs
    simp only [Rel] at hr
    obtain ⟨vs, e1, e2⟩ := hr
    have hval : a.eval x = .tuple ⟨vs⟩ := by rw [hev]; have := slot_single rfl hw; rw [this] at e1; injection e1
    split at hK
    · rename_i v hv
      obtain ⟨val, f1, c, f2, f3⟩ := tup_get hv e2
      have hvc := tup_closed hv hcl
      have hex : (execOp a.eval o).run P w = .ok (.value val) w := by
        unfold execOp
        rw [hop]
        have : (⟨vs⟩ : Array Value)[n]? = some val := by simpa using f1
        simp [Instr.extract, hval, this]
      cases hp : v.T.pure with
      | true =>
        rw [hp] at hK
        exact wp_put_pure (v := v) S hd hK hex rfl rfl rfl rfl hp ⟨c, f2, f3⟩
      | false =>
        rw [hp] at hK
        simp only [cond_false, hvc, cond_true] at hK
        split at hK
        · rename_i w2 hw2
          obtain ⟨hf, hds, hk⟩ := putR_some hK
          obtain ⟨h1, h2⟩ := dstOk_eq hd
          let u : Tag := s :: 6 :: fpath n
          have hu : s :: 6 :: List.replicate n 2 ++ [1] = u := rfl
          rw [hu] at hk
          unfold Oper.wp
          rw [hex, Oper.upon_value, h1]
          have I' : Inv w σ (rt u [d] h) := S.inv.rt (fun b x hb hp => by
            obtain ⟨q', e⟩ := isPre_iff.1 hp
            exact (no_tag S hf hb (q := q') (by simpa using e)).elim)
          have hkeep : ∀ b x, h b = some x → isPre u x.tag = false → rt u [d] h b = some x := fun b x hb hp => rt_kept hb hp
          have hown : Owns st s := ⟨_, hs, rfl, by simpa [Ty.closed] using hcl⟩
          obtain ⟨k1, k2⟩ := tup_any (h' := rt u [d] h) hw2 hcl e2 (fun b blk rr hb ht hp => hkeep b blk hb (by
            rw [ht]
            show isPre ([s] ++ [6] ++ fpath n) ([s] ++ [6] ++ rr) = false
            rw [isPre_app]; exact hp))
          have hvm : VRel σ (rt u [d] h) v.T v.x val [d] := ⟨c, f2, Rel.move σ.le_refl hvc (fun b blk qq hb ht => rt_moved hb (by rw [ht]; simp [u])) f3⟩
          refine ⟨σ, rt u [d] h, _, _, hk, ⟨Nat.le_refl _, σ.le_refl, rfl, rfl, rfl, fun _ _ hn => ⟨rfl, rt_none hn, fun _ => rfl⟩⟩, ?_, rfl, by simp [Act.put]⟩
          refine S.root hf hds h2 hown (u := ⟨.tup w2.T, w2.x⟩) (by simpa [Ty.closed] using k2) rfl σ.le_refl I' (fun b blk k qq hb ht hk => ?_) (fun b blk hb => ?_) hvm (closed_okTop hvc) (by rw [closed_looks hvc]; simp) ⟨cs, hw, ?_⟩ (fun s' v' qq hs' hlk hdead => ?_)
          · refine hkeep b blk hb ?_
            rw [ht]; exact isPre_ne (Ne.symm hk)
          · obtain ⟨x0, hx0, hcase⟩ := rt_some hb
            rcases hcase with ⟨rr, _, rfl⟩ | ⟨_, rfl⟩
            · exact .inr (.inr ⟨rr, by rw [Blk.tag_withTag]; rfl, hp, hvc⟩)
            · exact .inl hx0
          · simp only [Rel]; exact ⟨vs, e1, k1⟩
          · have hal := alive hlk hdead (c := u) (by simp)
            refine ⟨fun b cs0 hb => ⟨cs0, hkeep b _ hb hal⟩, fun b cs0 hb => hkeep b _ hb hal, fun b cs0 hb => hkeep b _ hb hal, fun hn b blk hb => ?_⟩
            obtain ⟨x0, hx0, hcase⟩ := rt_some hb
            rcases hcase with ⟨rr, _, rfl⟩ | ⟨_, rfl⟩
            · rw [Blk.tag_withTag]
              intro e
              injection e with e _
              exact hds e
            · exact hn b blk hx0
        · cases hK
    · cases hK
  · cases hK
end
end Go.Proofs.Bw
namespace Go.Proofs.Bw
open Go

section
variable {P : Program} {R : Type} {σ : Sg} {h : Hp} {st : St} {a : Act} {w : World} {K : St → List Tag → Option R} {r : R} {o : Oper} {Q : Exit → Act → World → Prop} {tab : Tab}

/-- where part n lies, and how many cells it has -/
def foff : Ty → Nat → Option (Nat × Nat)
  | .arr m e, n => bif Nat.blt n m then some (n * e.size, e.size) else none
  | .pair a _, 0 => some (0, a.size)
  | .pair a b, n + 1 => (match foff b n with
    | some (o, s) => some (a.size + o, s)
    | none => none)
  | _, _ => none
def ftag : Ty → Nat → Tag
  | .arr _ _, _ => [3]
  | .pair _ _, 0 => [1]
  | .pair _ b, n + 1 => 2 :: ftag b n
  | _, _ => []
/-- a chain of fields, to its end -/
def Ty.chn : Ty → Bool
  | .unit => true
  | .pair _ b => b.chn
  | _ => false
theorem ftag_chn : ∀ {T : Ty} {n : Nat} {p : Nat × Nat}, T.chn = true → foff T n = some p → ftag T n = fpath n := by
  intro T
  induction T with
  | pair A B _ ihb =>
    intro n p hc hf
    cases n with
    | zero => rfl
    | succ n =>
      simp only [foff] at hf
      cases hb : foff B n with
      | none => rw [hb] at hf; cases hf
      | some q =>
        have := ihb (n := n) hc hb
        show 2 :: ftag B n = fpath (n + 1)
        rw [this]; rfl
  | unit => intro n p _ hf; cases hf
  | _ => intro n p hc; cases hc

theorem setF_rel : ∀ {T : Ty} {x : T.den} {n : Nat} {u w : SV} {cs c : List Value} {t : Tag}, setF T x n u = some w → T.closed = true → u.T.closed = true → Rel σ h T false x cs t → Rel σ h u.T false u.x c (t ++ ftag T n) →
    ∃ o s, foff T n = some (o, s) ∧ c.length = s ∧ o + s ≤ cs.length ∧ Rel σ h w.T false w.x (cs.take o ++ c ++ cs.drop (o + s)) t ∧ w.T.closed = true ∧ (∀ m, foff w.T m = foff T m) ∧ (∀ m, ftag w.T m = ftag T m) ∧ w.T.chn = T.chn ∧ w.T.agg = T.agg ∧ w.T.size = T.size := by
  intro T
  induction T with
  | pair A B _ ihb =>
    intro x n u w cs c t hs hc hu hr hc2
    simp only [Rel] at hr
    obtain ⟨c1, d, rfl, h1, h2⟩ := hr
    simp only [Ty.closed, Bool.and_eq_true] at hc
    cases n with
    | zero =>
      simp only [setF] at hs
      obtain ⟨he, hs⟩ := bif_some hs
      simp only [Bool.and_eq_true] at he
      have e1 := Nat.eq_of_beq_eq_true he.1
      injection hs with hs
      subst hs
      refine ⟨0, A.size, rfl, by rw [Rel.length hc2, e1], by rw [List.length_append, Rel.length h1]; omega, ?_, by simp only [Ty.closed, hu, hc.2, Bool.and_self], fun m => ?_, fun m => ?_, rfl, rfl, by simp only [Ty.size, e1]⟩
      · simp only [Rel]
        refine ⟨c, d, ?_, hc2, h2⟩
        rw [List.take_zero, Nat.zero_add, ← Rel.length h1, List.drop_left]; rfl
      · cases m <;> simp only [foff, e1]
      · cases m <;> rfl
    | succ n =>
      simp only [setF] at hs
      split at hs
      · rename_i w' hw'
        injection hs with hs
        subst hs
        obtain ⟨o, s, f1, f2, f3, f4, f5, f6, f7, f8, f9, f10⟩ := ihb hw' hc.2 hu h2 (t := t ++ [2]) (by
          have e : t ++ [2] ++ ftag B n = t ++ ftag (A.pair B) (n + 1) := by simp [ftag]
          rw [e]; exact hc2)
        refine ⟨A.size + o, s, by simp only [foff, f1], f2, by rw [List.length_append, Rel.length h1]; omega, ?_, by simp only [Ty.closed, hc.1, f5, Bool.and_self], fun m => ?_, fun m => ?_, f8, rfl, by simp only [Ty.size, f10]⟩
        · simp only [Rel]
          refine ⟨c1, d.take o ++ c ++ d.drop (o + s), ?_, h1, f4⟩
          rw [← Rel.length h1, List.take_append, List.take_of_length_le (by omega), List.drop_append]
          simp [Nat.add_assoc]
        · cases m with
          | zero => rfl
          | succ m => simp only [foff, f6 m]
        · cases m with
          | zero => rfl
          | succ m => simp only [ftag, f7 m]
      · cases hs
  | arr m e _ =>
    intro x n u w cs c t hs hc hu hr hc2
    simp only [setF] at hs
    split at hs
    · rename_i hb
      obtain ⟨hlt, hs⟩ := bif_some hs
      have hlt0 := hlt
      replace hlt : n < m := Nat.le_of_ble_eq_true hlt
      injection hs with hs
      subst hs
      obtain ⟨U, y⟩ := u
      have := Ty.eq_of_beq hb
      subst this
      obtain ⟨x, rfl⟩ : ∃ l : List U.den, l = x := ⟨x, rfl⟩
      simp only [Rel] at hr
      obtain ⟨r1, r2⟩ := hr
      have hlen := EList.length (n := U.size) (fun _ _ hh => Rel.length hh) r2
      have hcl : c.length = U.size := Rel.length hc2
      have hnm : n * U.size + U.size ≤ cs.length := by
        rw [hlen, r1]
        have : (n + 1) * U.size ≤ m * U.size := Nat.mul_le_mul_right _ hlt
        rw [Nat.add_mul, Nat.one_mul] at this; exact this
      refine ⟨n * U.size, U.size, by simp only [foff]; rw [hlt0]; rfl, hcl, hnm, ?_, hc, fun _ => rfl, fun _ => rfl, rfl, rfl, rfl⟩
      simp only [Rel]
      refine ⟨by rw [lset_length]; exact r1, ?_⟩
      have := EList.set (R := fun y c => Rel σ h U false y c (t ++ [3])) (xs := x) (cs := cs) (n := U.size) (fun _ _ hh => Rel.length hh) (i := n) (x := y) (pre := cs.take (n * U.size)) (c := (cs.drop (n * U.size)).take U.size) (post := cs.drop (n * U.size + U.size)) (c' := c) r2 (by omega) (by
        have e : cs.take (n * U.size) ++ (cs.drop (n * U.size)).take U.size ++ cs.drop (n * U.size + U.size) = cs := by
          rw [← List.drop_drop, List.append_assoc, List.take_append_drop, List.take_append_drop]
        exact e.symm) (by rw [List.length_take]; omega) (by rw [List.length_take, List.length_drop]; omega) (by exact hc2)
      have hz : lset (α := U.den) x (n : Int) (Ty.cast hb y) = x.set n y := by
        unfold lset; simp; rfl
      rw [hz]; exact this
    · cases hs
  | _ => intro x n u w cs c t hs; simp [setF] at hs

theorem setF_off : ∀ {T : Ty} {x : T.den} {n : Nat} {u w : SV}, setF T x n u = some w → ∃ p, foff T n = some p := by
  intro T
  induction T with
  | pair A B _ ihb =>
    intro x n u w hs
    cases n with
    | zero => exact ⟨_, rfl⟩
    | succ n =>
      simp only [setF] at hs
      split at hs
      · rename_i w' hw'
        obtain ⟨p, hp⟩ := ihb hw'
        exact ⟨(A.size + p.1, p.2), by simp only [foff, hp]⟩
      · cases hs
  | arr m e _ =>
    intro x n u w hs
    simp only [setF] at hs
    split at hs
    · obtain ⟨hlt, _⟩ := bif_some hs
      exact ⟨(n * e.size, e.size), by simp only [foff]; rw [hlt]; rfl⟩
    · cases hs
  | _ => intro x n u w hs; simp [setF] at hs
/-- one part goes in -/
theorem fill_step {place : Nat → Option (Nat × Nat)} {cs c : List Value} {i o sz : Nat} {v : Value} {rest : List (Nat × Value)} (hp : place i = some (o, sz)) (hc : v.cells = ⟨c⟩) (hl : c.length = sz) (hle : o + sz ≤ cs.length) :
    Instr.fill place ⟨cs⟩ ((i, v) :: rest) = Instr.fill place ⟨cs.take o ++ c ++ cs.drop (o + sz)⟩ rest := by
  obtain ⟨g1, g2⟩ := Great.foldl_set o c 0 ⟨cs⟩
  have he : (c.zipIdx 0).foldl (fun cs (x : Value × Nat) => cs.setIfInBounds (o + x.2) x.1) (⟨cs⟩ : Array Value) = ⟨cs.take o ++ c ++ cs.drop (o + sz)⟩ := by
    apply Array.ext_getElem?
    intro k
    rw [g2 k]
    have hsz : (⟨cs⟩ : Array Value).size = cs.length := rfl
    simp only [Nat.add_zero, hsz, List.getElem?_toArray]
    have h1 : (cs.take o).length = o := by rw [List.length_take]; omega
    by_cases hk : o ≤ k ∧ k < o + c.length ∧ k < cs.length
    · rw [if_pos hk, List.append_assoc, List.getElem?_append_right (by omega), List.getElem?_append_left (by omega), h1]
    · rw [if_neg hk]
      by_cases hlt : k < o
      · rw [List.append_assoc, List.getElem?_append_left (by omega), List.getElem?_take, if_pos hlt]
      · rw [List.getElem?_append_right (by rw [List.length_append, h1]; omega), List.length_append, h1, List.getElem?_drop]
        congr 1; omega
  have hcs : v.cells.size = sz := by rw [hc]; exact hl
  have hsz : (⟨cs⟩ : Array Value).size = cs.length := rfl
  conv => lhs; unfold Instr.fill
  simp only [hp, hcs, hsz]
  rw [if_neg (by simp; omega)]
  have hz : v.cells.zipIdx.foldl (fun cs (x : Value × Nat) => cs.setIfInBounds (o + x.2) x.1) (⟨cs⟩ : Array Value) = ⟨cs.take o ++ c ++ cs.drop (o + sz)⟩ := by
    rw [hc, ← he]
    simp [Array.zipIdx, List.mapIdx_eq_zipIdx_map]
  exact congrArg (fun z => Instr.fill place z rest) hz
def partsB : Nat → List (Nat × Opd × Bool) → List (Nat × Operand) → Bool
  | _, [], [] => true
  | lo, (n, o, tk) :: r, (i, x) :: s => Nat.beq i n && Nat.ble lo n && opdOk o x && (match tk, o with
    | true, .t _ => true
    | false, _ => true
    | _, _ => false) && partsB (n + 1) r s
  | _, _, _ => false
/-- the parts that are given: the slot, the field -/
def takes : List (Nat × Opd × Bool) → List (Nat × Nat)
  | [] => []
  | (n, .t s, true) :: r => (s, n) :: takes r
  | _ :: r => takes r
theorem takes_ge : ∀ {ps : List (Nat × Opd × Bool)} {xs : List (Nat × Operand)} {lo : Nat}, partsB lo ps xs = true → ∀ p ∈ takes ps, lo ≤ p.2
  | [], _, lo, _, p, hp => by cases hp
  | (n, o, tk) :: r, [], lo, h, p, hp => by cases h
  | (n, o, tk) :: r, (i, x) :: s, lo, h, p, hp => by
    simp only [partsB, Bool.and_eq_true, Nat.ble_eq] at h
    have ih := takes_ge h.2
    cases tk with
    | false =>
      have : takes ((n, o, false) :: r) = takes r := by cases o <;> rfl
      rw [this] at hp
      have := ih p hp; omega
    | true =>
      cases o with
      | c v => simp at h
      | t s' =>
        rcases List.mem_cons.1 hp with rfl | hp
        · exact h.1.1.1.2
        · have := ih p hp; omega
theorem buildK_ok {d : Nat} {H : Hp} {place : Nat → Option (Nat × Nat)} (S : SRel σ h st a.tmps w) : ∀ (ps : List (Nat × Opd × Bool)) (xs : List (Nat × Operand)) {lo : Nat} {v w0 : SV} {l l' : List Nat} {cs : List Value},
    partsB lo ps xs = true → buildK st.get v ps l (fun v l => some (v, l)) = some (w0, l') → (∀ n p, foff v.T n = some p → place n = some p) → (v.T.chn = true ∨ ∃ m e, v.T = .arr m e) →
    (∀ p ∈ takes ps, Goes h H [p.1] ([d] ++ fpath p.2)) → v.T.closed = true → Rel σ H v.T false v.x cs [d] → (∀ s ∈ l, True) →
    ∃ cs', Instr.fill place ⟨cs⟩ (xs.map fun p => (p.1, a.eval p.2)) = some ⟨cs'⟩ ∧ Rel σ H w0.T false w0.x cs' [d] ∧ w0.T.closed = true ∧ w0.T.agg = v.T.agg ∧ (∀ s, s ∈ l' ↔ (s ∈ l ∨ ∃ n, (s, n) ∈ takes ps)) ∧
      (∀ p ∈ takes ps, ∃ u, st.get p.1 = some u ∧ u.T.closed = true) ∧ ((takes ps).map (·.1)).Pairwise (· ≠ ·) ∧ (∀ p ∈ takes ps, p.1 ∉ l)
  | [], [], lo, v, w0, l, l', cs, _, hk, _, _, _, hc, hr, _ => by
    injection hk with hk
    injection hk with hk1 hk2
    subst hk1 hk2
    exact ⟨cs, rfl, hr, hc, rfl, fun s => by simp [takes], fun p hp => (by cases hp), List.Pairwise.nil, fun p hp => (by cases hp)⟩
  | [], _ :: _, lo, v, w0, l, l', cs, h, _, _, _, _, _, _, _ => by cases h
  | (_, _, _) :: _, [], lo, v, w0, l, l', cs, h, _, _, _, _, _, _, _ => by cases h
  | (n, o, tk) :: r, (i, x) :: s, lo, v, w0, l, l', cs, hpb, hk, hpl, hty, hgo, hc, hr, _ => by
    have hpb0 := hpb
    simp only [partsB, Bool.and_eq_true, Nat.ble_eq] at hpb
    obtain ⟨⟨⟨⟨hi, hlo⟩, hx⟩, htk⟩, hrest⟩ := hpb
    have hi := Nat.eq_of_beq_eq_true hi
    subst hi
    -- one step, when the part's value is known
    have go : ∀ (u : SV) (l1 : List Nat) (w1 : SV), opv st.get o = some u → u.T.closed = true → (∃ c, wr u.T.agg (a.eval x) c ∧ Rel σ H u.T false u.x c ([d] ++ ftag v.T i)) → u.T.solid = true → setF v.T v.x i u = some w1 →
        buildK st.get w1 r l1 (fun v l => some (v, l)) = some (w0, l') → (∀ p ∈ takes r, Goes h H [p.1] ([d] ++ fpath p.2)) →
        ∃ cs', Instr.fill place ⟨cs⟩ (((i, x) :: s).map fun p => (p.1, a.eval p.2)) = some ⟨cs'⟩ ∧ Rel σ H w0.T false w0.x cs' [d] ∧ w0.T.closed = true ∧ w0.T.agg = v.T.agg ∧ (∀ s, s ∈ l' ↔ (s ∈ l1 ∨ ∃ n, (s, n) ∈ takes r)) ∧
          (∀ p ∈ takes r, ∃ u, st.get p.1 = some u ∧ u.T.closed = true) ∧ ((takes r).map (·.1)).Pairwise (· ≠ ·) ∧ (∀ p ∈ takes r, p.1 ∉ l1) := by
      rintro u l1 w1 hu huc ⟨c, hw, hrel⟩ hso hset hk1 hgo1
      obtain ⟨of, sz, f1, f2, f3, f4, f5, f6, f7, f8, f9, f10⟩ := setF_rel hset hc huc hr hrel
      have hcells := wr_cells hso hw hrel
      have hty1 : w1.T.chn = true ∨ ∃ m e, w1.T = .arr m e := by
        rcases hty with h1 | ⟨m, e, h1⟩
        · exact .inl (by rw [f8]; exact h1)
        · right
          obtain ⟨T, y⟩ := v
          have h1 : T = .arr m e := h1
          subst h1
          simp only [setF] at hset
          split at hset
          · obtain ⟨_, hset⟩ := bif_some hset
            injection hset with hset
            exact ⟨m, e, by rw [← hset]⟩
          · cases hset
      obtain ⟨cs', e1, e2, e3, e4, e5, e6, e7, e8⟩ := buildK_ok S r s (v := w1) hrest hk1 (fun m p hm => hpl m p (by rw [← f6]; exact hm)) hty1 hgo1 f5 f4 (fun _ _ => trivial)
      refine ⟨cs', ?_, e2, e3, by rw [e4, f9], e5, e6, e7, e8⟩
      rw [List.map_cons, fill_step (hpl i _ f1) hcells f2 f3]
      exact e1
    simp only [buildK] at hk
    cases hu : opv st.get o with
    | none => rw [hu] at hk; cases hk
    | some u =>
      rw [hu] at hk
      simp only [] at hk
      obtain ⟨tg, c, hw, hrel⟩ := opd_rel S hx hu
      cases tk with
      | false =>
        simp only [cond_false] at hk
        obtain ⟨hp, hk⟩ := bif_some hk
        split at hk
        · rename_i w1 hset
          have htake : takes ((i, o, false) :: r) = takes r := by cases o <;> rfl
          rw [htake] at hgo ⊢
          exact go u l w1 hu (Ty.closed_of_pure hp) ⟨c, hw, Rel.pure σ.le_refl hp hrel⟩ (solid_of_hard (hard_of_pure hp)) hset hk hgo
        · cases hk
      | true =>
        cases o with
        | c v0 => simp at htk
        | t s0 =>
          simp only [cond_true] at hk
          obtain ⟨hcc, hk⟩ := bif_some hk
          simp only [Bool.and_eq_true, Bool.not_eq_true'] at hcc
          split at hk
          · rename_i w1 hset
            have hgo0 := hgo (s0, i) (by simp [takes])
            have hgo1 : ∀ p ∈ takes r, Goes h H [p.1] ([d] ++ fpath p.2) := fun p hp => hgo p (by simp [takes, hp])
            have hso : u.T.solid = true := hcc.1.2
            have hval : a.eval x = a.tmps.getD s0 undef := opdT_eval (a := a) hx
            have hrel2 : ∃ c, wr u.T.agg (a.eval x) c ∧ Rel σ H u.T false u.x c ([d] ++ ftag v.T i) := by
              obtain ⟨_, c0, hw0, hr0⟩ := S.vals s0 u hu
              cases hup : u.T.pure with
              | true => exact ⟨c0, by rw [hval]; exact hw0, Rel.pure σ.le_refl hup hr0⟩
              | false =>
                refine ⟨c0, by rw [hval]; exact hw0, ?_⟩
                have hft : ftag v.T i = fpath i := by
                  rcases hty with h1 | ⟨m, e, h1⟩
                  · obtain ⟨p, hp⟩ := setF_off hset
                    exact ftag_chn h1 hp
                  · exfalso
                    obtain ⟨T, y⟩ := v
                    have h1 : T = .arr m e := h1
                    subst h1
                    simp only [setF] at hset
                    split at hset
                    · rename_i hb
                      have := Ty.eq_of_beq hb
                      have hc : e.pure = true := hc
                      rw [← this, hup] at hc; cases hc
                    · cases hset
                rw [hft]
                exact Rel.move σ.le_refl hcc.1.1 hgo0 hr0
            obtain ⟨cs', e1, e2, e3, e4, e5, e6, e7, e8⟩ := go u (s0 :: l) w1 hu hcc.1.1 hrel2 hso hset hk hgo1
            refine ⟨cs', e1, e2, e3, e4, fun s => ?_, fun p hp => ?_, ?_, fun p hp => ?_⟩
            · rw [e5]
              simp only [takes, List.mem_cons, Prod.mk.injEq]
              constructor
              · rintro ((h1 | h1) | ⟨n, h1⟩)
                · exact .inr ⟨i, .inl ⟨h1, rfl⟩⟩
                · exact .inl h1
                · exact .inr ⟨n, .inr h1⟩
              · rintro (h1 | ⟨n, h1 | h1⟩)
                · exact .inl (.inr h1)
                · exact .inl (.inl h1.1)
                · exact .inr ⟨n, h1⟩
            · rcases List.mem_cons.1 hp with rfl | hp
              · exact ⟨u, hu, hcc.1.1⟩
              · exact e6 p hp
            · simp only [takes, List.map_cons, List.pairwise_cons]
              refine ⟨fun s hs he => ?_, e7⟩
              obtain ⟨p, hp, rfl⟩ := List.mem_map.1 hs
              exact e8 p hp (by rw [← he]; simp)
            · rcases List.mem_cons.1 hp with rfl | hp
              · exact contains_false hcc.2
              · exact fun hh => e8 p hp (by simp [hh])
          · cases hk
end
end Go.Proofs.Bw
namespace Go.Proofs.Bw
open Go

section
variable {P : Program} {R : Type} {σ : Sg} {h : Hp} {st : St} {a : Act} {w : World} {K : St → List Tag → Option R} {r : R} {o : Oper} {Q : Exit → Act → World → Prop} {tab : Tab}

/-- some blocks under other names, the others as they are -/
def hmv (ρ : Tag → Option Tag) (h : Hp) : Hp := fun b => match h b with
  | some blk => (match ρ blk.tag with
    | some t => some (blk.withTag t)
    | none => some blk)
  | none => none
theorem hmv_some {ρ : Tag → Option Tag} {b : Nat} {blk : Blk} (hb : hmv ρ h b = some blk) : ∃ x, h b = some x ∧ ((∃ t, ρ x.tag = some t ∧ blk = x.withTag t) ∨ (ρ x.tag = none ∧ blk = x)) := by
  unfold hmv at hb
  split at hb
  · rename_i x hx
    split at hb
    · rename_i t ht; injection hb with hb; exact ⟨x, hx, .inl ⟨t, ht, hb.symm⟩⟩
    · rename_i ht; injection hb with hb; subst hb; exact ⟨_, hx, .inr ⟨ht, rfl⟩⟩
  · cases hb
theorem hmv_of {ρ : Tag → Option Tag} {b : Nat} {x : Blk} {t : Tag} (hb : h b = some x) (ht : ρ x.tag = some t) : hmv ρ h b = some (x.withTag t) := by unfold hmv; rw [hb]; simp only [ht]
theorem hmv_kept {ρ : Tag → Option Tag} {b : Nat} {x : Blk} (hb : h b = some x) (ht : ρ x.tag = none) : hmv ρ h b = some x := by unfold hmv; rw [hb]; simp only [ht]
theorem hmv_none {ρ : Tag → Option Tag} {b : Nat} (hb : h b = none) : hmv ρ h b = none := by unfold hmv; rw [hb]
theorem Inv.mv (I : Inv w σ h) {ρ : Tag → Option Tag} (hi : ∀ a b c, ρ a = some c → ρ b = some c → a = b) (hn : ∀ b x t c, h b = some x → ρ t = some c → x.tag ≠ c) : Inv w σ (hmv ρ h) := by
  refine ⟨fun b x cs hb hc => ?_, fun b es u hb => ?_, fun b x hb j => ?_, I.sta, fun b c x y hb hc hxy => ?_⟩
  · obtain ⟨x0, h0, hcase⟩ := hmv_some hb
    rcases hcase with ⟨t, _, rfl⟩ | ⟨_, rfl⟩
    · rw [withTag_cells] at hc; exact I.cells b x0 cs h0 hc
    · exact I.cells b _ cs h0 hc
  · obtain ⟨x0, h0, hcase⟩ := hmv_some hb
    rcases hcase with ⟨t, _, e⟩ | ⟨_, rfl⟩
    · cases x0 with
      | cells _ _ => cases e
      | row _ _ => cases e
      | obj o' t0 =>
        injection e with e1 e2
        subst e1
        exact I.maps b _ _ h0
    · exact I.maps b _ _ h0
  · obtain ⟨x0, h0, _⟩ := hmv_some hb
    exact I.own b x0 h0 j
  · obtain ⟨x0, h0, hcase⟩ := hmv_some hb
    obtain ⟨y0, g0, hcase2⟩ := hmv_some hc
    rcases hcase with ⟨t, e1, rfl⟩ | ⟨e1, rfl⟩
    · rcases hcase2 with ⟨u, e2, rfl⟩ | ⟨e2, rfl⟩
      · rw [Blk.tag_withTag, Blk.tag_withTag] at hxy
        subst hxy
        exact I.inj b c x0 y0 h0 g0 (hi _ _ _ e1 e2)
      · rw [Blk.tag_withTag] at hxy
        exact (hn c _ _ _ g0 e1 hxy.symm).elim
    · rcases hcase2 with ⟨u, e2, rfl⟩ | ⟨e2, rfl⟩
      · rw [Blk.tag_withTag] at hxy
        exact (hn b _ _ _ h0 e2 hxy).elim
      · exact I.inj b c _ _ h0 g0 hxy

theorem none2_has {l : List Nat} {k : Nat} : hasS (none2 l) k = true ↔ k ∈ l := by
  unfold none2
  induction l with
  | nil => simp [hasS]
  | cons x l ih => simp only [List.map_cons, hasS, Bool.or_eq_true, ih, List.mem_cons]; rw [beq_iff]; simp [eq_comm]
theorem none2_get {l : List Nat} {k : Nat} : St.get (none2 l) k = none := by
  unfold none2
  induction l with
  | nil => rfl
  | cons x l ih =>
    simp only [List.map_cons]
    rw [get_cons]
    split
    · rfl
    · exact ih
/-- a value is made of what some slots own -/
theorem SRel.gather {tm : Array Value} (S : SRel σ h st tm w) {d : Nat} {v : SV} {val : Value} {l : List Nat} {pcs : List Pc} (hf : fresh st.get d = true) (hsz : d < tm.size) (hdl : d ∉ l)
    (hu : pcs.Pairwise ApU) (hv : pcs.Pairwise ApV) (hp : ∀ c ∈ pcs, ∃ s q, c = ⟨[s], d :: q, false⟩ ∧ s ∈ l) (hl : ∀ s ∈ l, ∃ q, (⟨[s], d :: q, false⟩ : Pc) ∈ pcs)
    (hnp : l ≠ [] → v.T.pure = false) (hcl : v.T.closed = true) (hval : VRel σ (hmv (pcm pcs) h) v.T v.x val [d]) :
    SStep h st tm ((d, some v) :: none2 l) (tags1 l) σ (hmv (pcm pcs) h) (tm.setIfInBounds d val) w := by
  have hno := not_owns_of_fresh hf
  have hpc : ∀ t t', pcm pcs t = some t' → ∃ s q q', t = s :: q ∧ t' = d :: q' ∧ s ∈ l := by
    intro t t' ht
    obtain ⟨c, x, e1, _, e3, e4⟩ := pcm_some ht
    obtain ⟨s, q, rfl, hs⟩ := hp c e1
    exact ⟨s, x, q ++ x, e3, e4, hs⟩
  have hin : ∀ s q, s ∈ l → ∃ q', pcm pcs (s :: q) = some (d :: q') := by
    intro s q hs
    obtain ⟨q0, hm⟩ := hl s hs
    exact ⟨q0 ++ q, pcm_of (x := q) hu hm (fun e => by cases e)⟩
  have hnd : ∀ b x q, h b = some x → x.tag ≠ d :: q := by
    intro b x q hb e
    obtain ⟨k, r, e1, ho⟩ := S.own b x hb
    rw [e] at e1
    injection e1 with e1 _
    subst e1
    exact hno ho
  have I' : Inv w σ (hmv (pcm pcs) h) := S.inv.mv (fun a b c h1 h2 => pcm_inj hv h1 h2) (fun b x t c hb ht => by
    obtain ⟨s, q, q', _, e, _⟩ := hpc t c ht
    rw [e]; exact hnd b x q' hb)
  have hhas : ∀ k, hasS ((d, some v) :: none2 l) k = true ↔ (k = d ∨ k ∈ l) := by
    intro k
    simp only [hasS, Bool.or_eq_true, none2_has]
    rw [beq_iff]; simp [eq_comm]
  have hget : ∀ k, St.get ((d, some v) :: none2 l) k = if d = k then some v else none := by
    intro k
    rw [get_cons]
    split
    · rfl
    · exact none2_get
  refine SRel.upd2 S _ _ σ.le_refl I' (fun b blk k r hb ht hk => ?_) (fun b blk hb => ?_) (fun s v' hs hv' => ?_) ⟨by simp, fun s hs => ?_⟩ (fun s v' k r hs hns hlk hk hok hdead => ?_)
  · refine hmv_kept hb ?_
    cases hpp : pcm pcs blk.tag with
    | none => rfl
    | some t' =>
      obtain ⟨s, q, q', e1, _, hs⟩ := hpc _ _ hpp
      rw [ht] at e1
      injection e1 with e1 _
      subst e1
      rw [(hhas k).2 (.inr hs)] at hk; cases hk
  · obtain ⟨x0, h0, hcase⟩ := hmv_some hb
    rcases hcase with ⟨t, e1, rfl⟩ | ⟨e1, rfl⟩
    · obtain ⟨s, q, q', _, e3, hs⟩ := hpc _ _ e1
      refine ⟨d, q', by rw [Blk.tag_withTag, e3], fun _ => ⟨v, by rw [hget, if_pos rfl], hnp (fun e => by rw [e] at hs; cases hs), hcl⟩, fun hh => ?_⟩
      rw [(hhas d).2 (.inl rfl)] at hh; cases hh
    · obtain ⟨k, r, e2, ho⟩ := S.own b _ h0
      have hkd : k ≠ d := fun e => hno (by rw [← e]; exact ho)
      have hkl : k ∉ l := fun hm => by
        obtain ⟨q', hq⟩ := hin k r hm
        rw [e2, hq] at e1; cases e1
      have hns : hasS ((d, some v) :: none2 l) k = false := by
        cases hh : hasS ((d, some v) :: none2 l) k with
        | false => rfl
        | true => rcases (hhas k).1 hh with e | e; exact (hkd e).elim; exact (hkl e).elim
      exact ⟨k, r, e2, fun hh => (by rw [hns] at hh; cases hh), fun _ => h0⟩
  · rw [hget] at hv'
    split at hv'
    · rename_i e
      subst e
      injection hv' with hv'
      subst hv'
      refine ⟨by simpa using hsz, ?_, .inl hcl⟩
      rw [getD_set, if_pos ⟨rfl, hsz⟩]
      exact hval
    · cases hv'
  · rw [getD_set, if_neg]
    rintro ⟨e, _⟩
    rw [(hhas s).2 (.inl e.symm)] at hs; cases hs
  · exfalso
    rcases (hhas k).1 hk with e | e
    · subst e; exact hno hok
    · have hm : [k] ∈ tags1 l := List.mem_map.2 ⟨k, e, rfl⟩
      rw [dead_of hlk hm (isPre_iff.2 ⟨r, rfl⟩)] at hdead; cases hdead

theorem fpath_inj : ∀ {n m : Nat} {x y : Tag}, fpath n ++ x = fpath m ++ y → n = m
  | 0, 0, _, _, _ => rfl
  | 0, m + 1, x, y, h => by rw [fpath_succ] at h; simp [fpath] at h
  | n + 1, 0, x, y, h => by rw [fpath_succ] at h; simp [fpath] at h
  | n + 1, m + 1, x, y, h => by
    rw [fpath_succ, fpath_succ] at h
    injection h with _ h
    rw [fpath_inj (n := n) (m := m) h]
theorem takes_lt : ∀ {ps : List (Nat × Opd × Bool)} {xs : List (Nat × Operand)} {lo : Nat}, partsB lo ps xs = true → (takes ps).Pairwise fun p q => p.2 < q.2
  | [], _, lo, _ => List.Pairwise.nil
  | (n, o, tk) :: r, [], lo, h => by cases h
  | (n, o, tk) :: r, (i, x) :: s, lo, h => by
    simp only [partsB, Bool.and_eq_true, Nat.ble_eq] at h
    have ih := takes_lt h.2
    have hge := takes_ge h.2
    cases tk with
    | false =>
      have : takes ((n, o, false) :: r) = takes r := by cases o <;> rfl
      rw [this]; exact ih
    | true =>
      cases o with
      | c v => simp at h
      | t s' => exact List.pairwise_cons.2 ⟨fun p hp => by have := hge p hp; show n < p.2; omega, ih⟩
theorem buildK_slots {g : Nat → Option SV} : ∀ (ps : List (Nat × Opd × Bool)) (xs : List (Nat × Operand)) {lo : Nat} {v w0 : SV} {l l' : List Nat}, partsB lo ps xs = true → buildK g v ps l (fun v l => some (v, l)) = some (w0, l') →
    (∀ s, s ∈ l' ↔ (s ∈ l ∨ ∃ n, (s, n) ∈ takes ps)) ∧ ((takes ps).map (·.1)).Pairwise (· ≠ ·) ∧ (∀ p ∈ takes ps, p.1 ∉ l)
  | [], [], lo, v, w0, l, l', _, hk => by
    injection hk with hk
    injection hk with hk1 hk2
    subst hk1 hk2
    exact ⟨fun s => by simp [takes], List.Pairwise.nil, fun p hp => (by cases hp)⟩
  | [], _ :: _, lo, v, w0, l, l', h, _ => by cases h
  | (_, _, _) :: _, [], lo, v, w0, l, l', h, _ => by cases h
  | (n, o, tk) :: r, (i, x) :: s, lo, v, w0, l, l', hpb, hk => by
    simp only [partsB, Bool.and_eq_true, Nat.ble_eq] at hpb
    simp only [buildK] at hk
    cases hu : opv g o with
    | none => rw [hu] at hk; cases hk
    | some u =>
      rw [hu] at hk
      simp only [] at hk
      cases tk with
      | false =>
        simp only [cond_false] at hk
        obtain ⟨_, hk⟩ := bif_some hk
        split at hk
        · have htake : takes ((n, o, false) :: r) = takes r := by cases o <;> rfl
          rw [htake]
          exact buildK_slots r s hpb.2 hk
        · cases hk
      | true =>
        cases o with
        | c v0 => simp at hpb
        | t s0 =>
          simp only [cond_true] at hk
          obtain ⟨hcc, hk⟩ := bif_some hk
          simp only [Bool.and_eq_true, Bool.not_eq_true'] at hcc
          split at hk
          · obtain ⟨e5, e7, e8⟩ := buildK_slots r s hpb.2 hk
            refine ⟨fun s => ?_, ?_, fun p hp => ?_⟩
            · rw [e5]
              simp only [takes, List.mem_cons, Prod.mk.injEq]
              constructor
              · rintro ((h1 | h1) | ⟨m, h1⟩)
                · exact .inr ⟨n, .inl ⟨h1, rfl⟩⟩
                · exact .inl h1
                · exact .inr ⟨m, .inr h1⟩
              · rintro (h1 | ⟨m, h1 | h1⟩)
                · exact .inl (.inr h1)
                · exact .inl (.inl h1.1)
                · exact .inr ⟨m, h1⟩
            · simp only [takes, List.map_cons, List.pairwise_cons]
              refine ⟨fun s hs he => ?_, e7⟩
              obtain ⟨p, hp, rfl⟩ := List.mem_map.1 hs
              exact e8 p hp (by rw [← he]; simp)
            · rcases List.mem_cons.1 hp with rfl | hp
              · exact contains_false hcc.2
              · exact fun hh => e8 p hp (by simp [hh])
          · cases hk
def placesB (tab : Tab) : Nat → Ty → List Field → Bool
  | _, .unit, [] => true
  | off, .pair a b, f :: fs => Nat.beq f.offset off && (match tab.get f.type with | some i => Nat.beq i.size a.size | none => false) && placesB tab (off + a.size) b fs
  | _, _, _ => false
theorem placesB_ok (ht : TabOk P tab) : ∀ {T : Ty} {off : Nat} {fs : List Field}, placesB tab off T fs = true →
    T.chn = true ∧ ∃ places, fs.mapM (fun f => (P.info? f.type).map fun i => (f.offset, i.size)) = some places ∧ ∀ n p, foff T n = some p → places[n]? = some (off + p.1, p.2) := by
  intro T
  induction T with
  | unit =>
    intro off fs h
    cases fs with
    | nil => exact ⟨rfl, [], rfl, fun n p hn => by cases hn⟩
    | cons _ _ => cases h
  | pair A B _ ihb =>
    intro off fs h
    cases fs with
    | nil => cases h
    | cons f fs =>
      simp only [placesB, Bool.and_eq_true] at h
      obtain ⟨⟨h1, h2⟩, h3⟩ := h
      have h1 := Nat.eq_of_beq_eq_true h1
      obtain ⟨k1, places, k2, k3⟩ := ihb h3
      split at h2
      · rename_i i hi
        obtain ⟨_, j, g1, g2, _⟩ := ht f.type i hi
        have h2 := Nat.eq_of_beq_eq_true h2
        refine ⟨k1, (off, A.size) :: places, ?_, fun n p hn => ?_⟩
        · simp [List.mapM_cons, g1, k2, g2, h2, h1]
        · cases n with
          | zero => injection hn with hn; subst hn; simp
          | succ n =>
            simp only [foff] at hn
            split at hn
            · rename_i o s hb
              injection hn with hn
              subst hn
              have := k3 n _ hb
              simpa [Nat.add_assoc] using this
            · cases hn
      · cases h2
  | _ => intro off fs h; cases fs <;> cases h
def bldOk (tab : Tab) (t : Nat) (z : SV) : Bool := match tab.get t with
  | some i => z.T.agg && litV z.T z.x i.zero && (match descFs i.desc with
    | some fs => placesB tab 0 z.T fs
    | none => (match descArr i.desc, z.T with
      | some (_, e), .arr _ e' => (match tab.get e with | some j => Nat.beq j.size e'.size | none => false)
      | _, _ => false))
  | none => false
theorem op_build {d : Nat} {z : SV} {ps : List (Nat × Opd × Bool)} {t : TypeId} {parts : Array (Nat × Operand)} (ht : TabOk P tab) (S : SRel σ h st a.tmps w) (hop : o.op = .build t parts) (hd : dstOk a.tmps.size o d = true)
    (hs : bldOk tab t z = true) (hpb : partsB 0 ps parts.toList = true) (hK : evOp st.get K (.build d z ps) = some r) : o.wp P a w (Post σ h w st K r a) Q := by
  simp only [evOp] at hK
  obtain ⟨hc, hK⟩ := bif_some hK
  simp only [Bool.and_eq_true] at hc
  have hbk := (N_buildK (g := st.get) ps z []) R (fun p => bif p.2.contains d || (p.1.T.pure && !p.2.isEmpty) then none else K ((d, some p.1) :: none2 p.2) (tags1 p.2))
  have hK2 := hbk.symm.trans hK
  clear hK hbk
  replace hK2 : (buildK st.get z ps [] (fun v l => some (v, l))).bind (fun p => bif p.2.contains d || (p.1.T.pure && !p.2.isEmpty) then none else K ((d, some p.1) :: none2 p.2) (tags1 p.2)) = some r := hK2
  cases hb : buildK st.get z ps [] (fun v l => some (v, l)) with
  | none => rw [hb] at hK2; cases hK2
  | some p =>
    obtain ⟨v, l⟩ := p
    rw [hb] at hK2
    simp only [Option.bind_some] at hK2
    obtain ⟨hcc, hK⟩ := bif_none hK2
    simp only [Bool.or_eq_false_iff, Bool.and_eq_false_iff] at hcc
    obtain ⟨h1, h2⟩ := dstOk_eq hd
    unfold bldOk at hs
    split at hs
    · rename_i i hi
      simp only [Bool.and_eq_true] at hs
      obtain ⟨⟨hag, hlit⟩, hpl⟩ := hs
      obtain ⟨hun, j, g1, g2, g3, g4⟩ := ht t i hi
      let pcs : List Pc := (takes ps).map fun p => ⟨[p.1], d :: fpath p.2, false⟩
      let H := hmv (pcm pcs) h
      obtain ⟨zc, hzw, hzr⟩ := litV_rel (σ := σ) (h := H) (t := [d]) hlit
      have hz : i.zero = .agg ⟨zc⟩ := by rw [hag] at hzw; exact hzw
      -- where the parts go
      obtain ⟨place, hplace, hty, hbuilt⟩ : ∃ place : Nat → Option (Nat × Nat), (∀ n p, foff z.T n = some p → place n = some p) ∧ (z.T.chn = true ∨ ∃ m e, z.T = .arr m e) ∧
          ∀ vs cells, Instr.fill place ⟨zc⟩ vs = some cells → P.built t vs = some cells := by
        split at hpl
        · rename_i fs hfs
          obtain ⟨k1, places, k2, k3⟩ := placesB_ok ht hpl
          refine ⟨fun n => places.toArray[n]?, fun n p hn => by have := k3 n p hn; simpa using this, .inl k1, fun vs cells hfill => ?_⟩
          have hun' : P.underlying t = some (.struct ⟨fs⟩) := by rw [hun, descFs_eq hfs]
          unfold Program.built
          rw [g1, hun']
          simp only [g4, k2, hz]
          exact hfill
        · split at hpl
          · rename_i m e m' e' hda hT
            split at hpl
            · rename_i je hje
              obtain ⟨_, j', f1, f2, _⟩ := ht e je hje
              have hsz := Nat.eq_of_beq_eq_true hpl
              refine ⟨fun n => some (n * j'.size, j'.size), fun n p hn => ?_, .inr ⟨_, _, hT⟩, fun vs cells hfill => ?_⟩
              · rw [hT] at hn
                simp only [foff] at hn
                obtain ⟨_, hn⟩ := bif_some hn
                injection hn with hn
                subst hn
                rw [f2, hsz]
              · have hun' : P.underlying t = some (.array m e) := by rw [hun, descArr_eq hda]
                unfold Program.built
                rw [g1, hun']
                simp only [g4, f1, hz]
                exact hfill
            · cases hpl
          · cases hpl
      have hlt := takes_lt hpb
      have hpv : pcs.Pairwise ApV := List.pairwise_map.2 (hlt.imp fun {p q} hpq x y _ _ e => by
        injection e with _ e
        have := fpath_inj e
        omega)
      have hpu0 : ((takes ps).map (·.1)).Pairwise (· ≠ ·) → pcs.Pairwise ApU := fun hh => List.pairwise_map.2 ((List.pairwise_map.1 hh).imp fun {p q} hpq x y _ _ e => by
        injection e with e _
        exact hpq e)
      have hgo : pcs.Pairwise ApU → ∀ p ∈ takes ps, Goes h H [p.1] ([d] ++ fpath p.2) := fun hpu p hp b blk rr hb ht => by
        have hm : (⟨[p.1], d :: fpath p.2, false⟩ : Pc) ∈ pcs := List.mem_map.2 ⟨p, hp, rfl⟩
        exact hmv_of hb (by rw [ht]; exact pcm_of hpu hm (fun e => by cases e))
      obtain ⟨hmem, hdis, _⟩ := buildK_slots ps parts.toList hpb hb
      have hpu := hpu0 hdis
      obtain ⟨cs', e1, e2, e3, e4, _⟩ := buildK_ok (d := d) (H := H) (place := place) S ps parts.toList hpb hb hplace hty (hgo hpu) hc.2 hzr (fun _ _ => trivial)
      have hvag : v.T.agg = true := by rw [e4]; exact hag
      have hrun := run_build (P := P) w t (parts.map fun p => (p.1, a.eval p.2)) ⟨cs'⟩ (hbuilt _ _ (by rw [Array.toList_map]; exact e1))
      have hex : (execOp a.eval o).run P w = .ok (.value (.agg ⟨cs'⟩)) w := by
        unfold execOp
        rw [hop]
        simp [hrun]
      unfold Oper.wp
      rw [hex, Oper.upon_value, h1]
      have hdl : d ∉ l := contains_false hcc.1
      refine ⟨σ, H, _, _, hK, ⟨Nat.le_refl _, σ.le_refl, rfl, rfl, rfl, fun _ _ hn => ⟨rfl, hmv_none hn, fun _ => rfl⟩⟩, ?_, rfl, by simp [Act.put]⟩
      refine S.gather hc.1 h2 hdl hpu hpv (fun c hc => ?_) (fun s hs => ?_) (fun hne => ?_) e3 ⟨cs', by rw [hvag]; rfl, e2⟩
      · obtain ⟨p, hp, rfl⟩ := List.mem_map.1 hc
        exact ⟨p.1, fpath p.2, rfl, (hmem p.1).2 (.inr ⟨p.2, hp⟩)⟩
      · rcases (hmem s).1 hs with hs | ⟨n, hs⟩
        · cases hs
        · exact ⟨fpath n, List.mem_map.2 ⟨(s, n), hs, rfl⟩⟩
      · rcases hcc.2 with h3 | h3
        · exact h3
        · cases l with
          | nil => exact (hne rfl).elim
          | cons _ _ => cases h3
    · cases hs
end
end Go.Proofs.Bw
namespace Go.Proofs.Bw
open Go

section
variable {P : Program} {R : Type} {σ : Sg} {h : Hp} {st : St} {a : Act} {w : World} {K : St → List Tag → Option R} {r : R} {o : Oper} {Q : Exit → Act → World → Prop}

def mkfnB : List (Opd × Bool) → List Operand → Bool
  | [], [] => true
  | (b, _) :: cs, x :: xs => opdOk b x && mkfnB cs xs
  | _, _ => false
theorem capsK_ok (S : SRel σ h st a.tmps w) {X : Type} : ∀ {cs : List (Opd × Bool)} {xs : List Operand} {l : List Nat} {G : SV → List Nat → Option X} {r : X}, mkfnB cs xs = true → capsK st.get cs l G = some r →
    ∃ (c : SV) (l' : List Nat), c.T.pure = true ∧ G c l' = some r ∧ (∀ s ∈ l, s ∈ l') ∧ (∀ s ∈ l', s ∈ l ∨ ∃ v, st.get s = some v ∧ v.T.fzOk = true) ∧
      ∀ (σ' : Sg) (h' : Hp), σ.le σ' → (∀ s v, s ∈ l' → st.get s = some v → v.T.fzOk = true → ∀ cs, Rel σ h v.T false v.x cs [s] → Rel σ' h' v.T.fz false (v.T.fzx v.x) cs []) → Rel σ' h' c.T true c.x (xs.map a.eval) []
  | [], [], l, G, r, _, hK => ⟨⟨.unit, ()⟩, l, rfl, hK, fun _ hs => hs, fun _ hs => .inl hs, fun _ _ _ _ => by simp [Rel]⟩
  | (b, false) :: cs, x :: xs, l, G, r, hm, hK => by
    simp only [mkfnB, Bool.and_eq_true] at hm
    simp only [capsK] at hK
    split at hK
    · rename_i u hu
      simp only [cond_false] at hK
      obtain ⟨hp, hK⟩ := bif_some hK
      obtain ⟨c, l', c1, c2, c3, c4, c5⟩ := capsK_ok S hm.2 hK
      refine ⟨⟨.pair u.T c.T, (u.x, c.x)⟩, l', by simp [Ty.pure, hp, c1], c2, c3, c4, fun σ' h' hσ hf => ?_⟩
      obtain ⟨t, k, hw, hr⟩ := opd_rel S hm.1 hu
      simp only [Rel, List.map_cons]
      exact ⟨_, _, rfl, ⟨k, hw, Rel.pure hσ hp hr⟩, Rel.pure σ'.le_refl c1 (c5 σ' h' hσ hf)⟩
    · cases hK
  | (.c _, true) :: cs, x :: xs, l, G, r, hm, hK => by
    simp only [capsK] at hK
    split at hK <;> cases hK
  | (.t s, true) :: cs, x :: xs, l, G, r, hm, hK => by
    simp only [mkfnB, Bool.and_eq_true] at hm
    simp only [capsK] at hK
    split at hK
    · rename_i u hu
      simp only [cond_true] at hK
      obtain ⟨hp, hK⟩ := bif_some hK
      simp only [Bool.and_eq_true] at hp
      obtain ⟨c, l', c1, c2, c3, c4, c5⟩ := capsK_ok S hm.2 hK
      have hus : st.get s = some u := hu
      refine ⟨⟨.pair u.T.fz c.T, (u.T.fzx u.x, c.x)⟩, l', by simp [Ty.pure, fz_pure hp.1.1, c1], c2, fun s' hs' => c3 s' (List.mem_cons_of_mem _ hs'), fun s' hs' => ?_, fun σ' h' hσ hf => ?_⟩
      · rcases c4 s' hs' with h1 | h1
        · rcases List.mem_cons.1 h1 with rfl | h1
          · exact .inr ⟨u, hus, hp.1.1⟩
          · exact .inl h1
        · exact .inr h1
      · obtain ⟨_, k, hw, hr⟩ := S.vals s u hus
        have k2 := hf s u (c3 s (by simp)) hus hp.1.1 k hr
        have hev : a.eval x = a.tmps.getD s undef := opdT_eval hm.1
        have hag : u.T.fz.agg = u.T.agg := by cases u.T <;> rfl
        simp only [Rel, List.map_cons]
        exact ⟨_, _, rfl, ⟨k, by rw [hag, hev]; exact hw, Rel.pure σ'.le_refl (fz_pure hp.1.1) k2⟩, Rel.pure σ'.le_refl c1 (c5 σ' h' hσ hf)⟩
    · cases hK
  | [], _ :: _, _, _, _, hm, _ => by cases hm
  | (_, _) :: _, [], _, _, _, hm, _ => by cases hm
theorem withTagS (b : Blk) : b.withTag b.tag = b := by cases b <;> rfl
theorem hasS_fzS {g : Nat → Option SV} {l : List Nat} {s : Nat} : hasS (fzS g l) s = true ↔ s ∈ l := by
  induction l with
  | nil => simp [fzS, hasS]
  | cons k l ih =>
    have : fzS g (k :: l) = (k, match g k with | some v => some ⟨v.T.fz, v.T.fzx v.x⟩ | none => none) :: fzS g l := rfl
    rw [this]
    simp only [hasS, Bool.or_eq_true, ih, List.mem_cons]
    constructor
    · rintro (h | h)
      · exact .inl (Nat.eq_of_beq_eq_true h).symm
      · exact .inr h
    · rintro (h | h)
      · exact .inl (by rw [h]; simp)
      · exact .inr h
theorem get_fzS {g : Nat → Option SV} {l : List Nat} {s : Nat} (hs : s ∈ l) : St.get (fzS g l) s = match g s with | some v => some ⟨v.T.fz, v.T.fzx v.x⟩ | none => none := by
  induction l with
  | nil => cases hs
  | cons k l ih =>
    have : fzS g (k :: l) = (k, match g k with | some v => some ⟨v.T.fz, v.T.fzx v.x⟩ | none => none) :: fzS g l := rfl
    rw [this, get_cons]
    by_cases hk : k = s
    · subst hk; rw [if_pos rfl]
    · rw [if_neg hk]
      rcases List.mem_cons.1 hs with e | hs
      · exact (hk e.symm).elim
      · exact ih hs
theorem op_mkfn {d : Nat} {f : FuncId} {cs : List (Opd × Bool)} {xs : List Operand} (S : SRel σ h st a.tmps w) (hop : o.op = .makeFunc (.func f) #[] ⟨xs⟩) (hd : dstOk a.tmps.size o d = true) (hx : mkfnB cs xs = true)
    (hK : evOp st.get K (.mkfn d f cs) = some r) : o.wp P a w (Post σ h w st K r a) Q := by
  simp only [evOp] at hK
  obtain ⟨hf, hK⟩ := bif_some hK
  obtain ⟨c, l, c1, c2, _, c4, c5⟩ := capsK_ok S hx hK
  have c2 : (bif l.contains d then none else K ((d, some ⟨.fn f c.T, c.x⟩) :: fzS st.get l) (tags1 l)) = some r := c2
  have hdl : d ∉ l := fun hm => by
    rw [List.contains_iff_mem.2 hm] at c2; cases c2
  have c2 : K ((d, some ⟨.fn f c.T, c.x⟩) :: fzS st.get l) (tags1 l) = some r := by
    cases hh : l.contains d with
    | true => rw [hh] at c2; cases c2
    | false => rw [hh] at c2; exact c2
  have hex : (execOp a.eval o).run P w = .ok (.value (.func (.func f) #[] ⟨xs.map a.eval⟩)) w := by
    unfold execOp
    rw [hop]
    simp only [Instr.makeFunc]
    have : (⟨xs⟩ : Array Operand).map a.eval = ⟨xs.map a.eval⟩ := by simp
    show Result.ok (Next.value (Value.func (.func f) (#[].map a.eval) ((⟨xs⟩ : Array Operand).map a.eval))) w = _
    rw [this]; simp
  obtain ⟨h1, h2⟩ := dstOk_eq hd
  obtain ⟨ρ, hρ⟩ : ∃ ρ : Tag → Option Tag, ∀ t, ρ t = (match t with | k :: q => if k ∈ l then none else some (k :: q) | [] => some []) := ⟨_, fun _ => rfl⟩
  have hρs : ∀ t u, ρ t = some u → u = t ∧ ∀ k q, t = k :: q → k ∉ l := fun t u ht => by
    rw [hρ] at ht
    cases t with
    | nil => injection ht with ht; exact ⟨ht.symm, fun k q hh => by cases hh⟩
    | cons k q =>
      simp only at ht
      split at ht
      · cases ht
      · rename_i hk
        injection ht with ht
        refine ⟨ht.symm, fun k' q' hh => ?_⟩
        injection hh with hh _
        subst hh
        exact hk
  have hn : ∀ s ∈ l, ∀ b blk q, h b = some blk → blk.tag = s :: q → hren ρ h b = none := fun s hs b blk q hb ht => by
    unfold hren
    simp [hb, ht, hρ, hs]
  have hI := lendSg_inv (on := true) (ρ := ρ) S.inv (fun u v c hu hv' => by rw [← (hρs _ _ hu).1, (hρs _ _ hv').1])
  have hσ := lendSg_le (on := true) (h0 := hren ρ h) S.inv
  have hnone : ∀ b, h b = none → hren ρ h b = none := fun b hb => by unfold hren; simp [hb]
  have hrel := c5 _ (hren ρ h) hσ fun s v hs hv hfz cs hr => frz_rel (q := []) (t' := []) S.inv (k := s) (hn s hs) hfz hr
  have hnod := not_owns_of_fresh hf
  have hhas : ∀ k, hasS ((d, some (⟨.fn f c.T, c.x⟩ : SV)) :: fzS st.get l) k = true ↔ k = d ∨ k ∈ l := fun k => by
    simp only [hasS, Bool.or_eq_true, hasS_fzS]
    constructor
    · rintro (h | h)
      · exact .inl (Nat.eq_of_beq_eq_true h).symm
      · exact .inr h
    · rintro (h | h)
      · exact .inl (by rw [h]; simp)
      · exact .inr h
  have hnot : ∀ k, hasS ((d, some (⟨.fn f c.T, c.x⟩ : SV)) :: fzS st.get l) k = false → k ≠ d ∧ k ∉ l := fun k hk =>
    ⟨fun e => by have := (hhas k).2 (.inl e); simp_all, fun e => by have := (hhas k).2 (.inr e); simp_all⟩
  unfold Oper.wp
  rw [hex, Oper.upon_value, h1]
  refine ⟨lendSg true σ h (hren ρ h), hren ρ h, _, _, c2, ⟨Nat.le_refl _, hσ, rfl, rfl, rfl, fun b _ hb => ⟨rfl, hnone b hb, fun j => lendSg_old hb j⟩⟩, ?_, rfl, by simp [Act.put]⟩
  refine SRel.upd S _ _ hσ hI ?_ ?_ ?_ ⟨by simp [Act.put], fun k hk => ?_⟩ ?_
  · intro b blk k q hb ht hk
    have hkl := (hnot k hk).2
    have : ρ blk.tag = some blk.tag := by rw [ht, hρ]; simp [hkl]
    unfold hren
    simp only [hb, this]
    rw [withTagS]
  · intro b blk hb
    obtain ⟨y, t, k1, k2, rfl⟩ := hren_some hb
    obtain ⟨k3, k4⟩ := hρs _ _ k2
    obtain ⟨k, q, e1, e2⟩ := S.own b y k1
    refine ⟨k, q, by rw [Blk.tag_withTag, k3, e1], fun hk => ?_, fun _ => by rw [k1, k3, withTagS]⟩
    rcases (hhas k).1 hk with rfl | hkl
    · exact (hnod e2).elim
    · exact (k4 k q e1 hkl).elim
  · intro k v hk hv
    rcases (hhas k).1 hk with rfl | hkl
    · rw [get_cons, if_pos rfl] at hv
      injection hv with hv
      subst hv
      have hp : (Ty.fn f c.T).pure = true := by simpa [Ty.pure] using c1
      refine ⟨by simpa [Act.put] using h2, ?_, pure_okTop hp, fun u hu => by rw [pure_looks hp] at hu; cases hu⟩
      have : (a.put (some k) (.func (.func f) #[] ⟨xs.map a.eval⟩)).tmps.getD k undef = .func (.func f) #[] ⟨xs.map a.eval⟩ := by
        show (a.tmps.setIfInBounds k _).getD k undef = _
        rw [getD_set, if_pos ⟨rfl, h2⟩]
      rw [this]
      refine ⟨[_], rfl, ?_⟩
      simp only [Rel]
      exact ⟨_, rfl, Rel.pure (Sg.le_refl _) c1 hrel⟩
    · have hkd : d ≠ k := fun e => hdl (e ▸ hkl)
      rw [get_cons, if_neg hkd, get_fzS hkl] at hv
      obtain ⟨u, hu, hfz⟩ : ∃ u, st.get k = some u ∧ u.T.fzOk = true := by
        rcases c4 k hkl with hh | hh
        · cases hh
        · exact hh
      rw [hu] at hv
      simp only [Option.some.injEq] at hv
      subst hv
      obtain ⟨g1, cc, hw, hr⟩ := S.vals k u hu
      have hp := fz_pure hfz
      refine ⟨by simpa [Act.put] using g1, ?_, pure_okTop hp, fun u hu => by rw [pure_looks hp] at hu; cases hu⟩
      have : (a.put (some d) (.func (.func f) #[] ⟨xs.map a.eval⟩)).tmps.getD k undef = a.tmps.getD k undef := by
        show (a.tmps.setIfInBounds d _).getD k undef = _
        rw [getD_set, if_neg (fun hh => hkd hh.1)]
      rw [this]
      have hag : u.T.fz.agg = u.T.agg := by cases u.T <;> rfl
      exact ⟨cc, by rw [hag]; exact hw, frz_rel (q := []) S.inv (k := k) (hn k hkl) hfz hr⟩
  · show (a.tmps.setIfInBounds d _).getD k undef = _
    rw [getD_set, if_neg (fun hh => (hnot k hk).1 hh.1.symm)]
  · intro s v k q hs hns hl hk hdead
    exfalso
    rcases (hhas k).1 hk with rfl | hkl
    · obtain ⟨k', r', e1, e2⟩ := S.look s v _ hs hl
      injection e1 with e1 _
      subst e1
      exact hnod e2
    · rw [dead_of hl (c := [k]) (by simpa [tags1] using hkl) isPre_single] at hdead; cases hdead

/-! a function value is called: the caught values stand as slots behind the last one -/
def opBelow (n : Nat) : Operand → Bool
  | .tmp t => Nat.blt t n
  | _ => true
def capSt : Nat → (C : Ty) → C.den → St
  | N, .pair A B, x => (N, some ⟨A, x.1⟩) :: capSt (N + 1) B x.2
  | _, _, _ => []
theorem get_append {s : Nat} : ∀ {l m : St}, St.get (l ++ m) s = if hasS l s then St.get l s else St.get m s
  | [], m => by simp [hasS]
  | (k, v) :: l, m => by
    rw [List.cons_append, get_cons, get_append, get_cons]
    by_cases h : k = s
    · simp [h, hasS]
    · simp [h, hasS]
theorem capSt_has : ∀ {N : Nat} {C : Ty} {x : C.den} {s : Nat}, hasS (capSt N C x) s = true → N ≤ s
  | N, .pair A B, x, s, h => by
    simp only [capSt, hasS, Bool.or_eq_true] at h
    rcases h with h | h
    · have := Nat.eq_of_beq_eq_true h; omega
    · have := capSt_has h; omega
  | _, .unit, _, _, h => by cases h
  | _, .int _, _, _, h => by cases h
  | _, .bool, _, _, h => by cases h
  | _, .str, _, _, h => by cases h
  | _, .arr _ _, _, _, h => by cases h
  | _, .slB _ _ _, _, _, h => by cases h
  | _, .slX _ _, _, _, h => by cases h
  | _, .slV _ _ _, _, _, h => by cases h
  | _, .box _, _, _, h => by cases h
  | _, .opt _, _, _, h => by cases h
  | _, .ptr _ _ _ _ _, _, _, h => by cases h
  | _, .cref _, _, _, h => by cases h
  | _, .vref _ _, _, _, h => by cases h
  | _, .fn _ _, _, _, h => by cases h
  | _, .ifc _ _, _, _, h => by cases h
  | _, .tup _, _, _, h => by cases h
  | _, .nil _, _, _, h => by cases h
  | _, .map _ _, _, _, h => by cases h
  | _, .any, _, _, h => by cases h
  | _, .slA _ _ _, _, _, h => by cases h
  | _, .eref _ _ _ _, _, _, h => by cases h
  | _, .oref _, _, _, h => by cases h
  | _, .siter, _, _, h => by cases h
  | _, .mref _, _, _, h => by cases h
  | _, .fnp _ _, _, _, h => by cases h
  | _, .slT _ _, _, _, h => by cases h
  | _, .nb _, _, _, h => by cases h
/-- what stands in them -/
theorem capSt_at : ∀ {C : Ty} {x : C.den} {N : Nat} {vs : List Value} {t : Tag}, capsOk C = true → C.pure = true → Rel σ h C true x vs t → ∀ i,
    (match capAt C x i with
      | some v => hasS (capSt N C x) (N + i) = true ∧ St.get (capSt N C x) (N + i) = some v ∧ v.T.pure = true ∧ ∃ u t, vs[i]? = some u ∧ VRel σ h v.T v.x u t
      | none => hasS (capSt N C x) (N + i) = false ∧ vs[i]? = none)
  | .pair A B, x, N, vs, t, hc, hp, hr, 0 => by
    simp only [Rel] at hr
    obtain ⟨v, d, rfl, ⟨c, hw, h1⟩, h2⟩ := hr
    simp only [Ty.pure, Bool.and_eq_true] at hp
    simp only [capAt, capSt, hasS, Nat.add_zero]
    refine ⟨by simp, by rw [get_cons]; simp, hp.1, v, _, by simp, c, hw, h1⟩
  | .pair A B, x, N, vs, t, hc, hp, hr, i + 1 => by
    simp only [Rel] at hr
    obtain ⟨v, d, rfl, _, h2⟩ := hr
    simp only [Ty.pure, Bool.and_eq_true] at hp
    have ih := capSt_at (N := N + 1) (show capsOk B = true from hc) hp.2 h2 i
    have e : N + 1 + i = N + (i + 1) := by omega
    have ne : Nat.beq N (N + (i + 1)) = false := by
      cases hb : Nat.beq N (N + (i + 1)) with
      | false => rfl
      | true => have := Nat.eq_of_beq_eq_true hb; omega
    have nk : ¬ (N = N + (i + 1)) := by omega
    simp only [capAt]
    rw [e] at ih
    revert ih
    cases capAt B x.2 i with
    | some v' =>
      rintro ⟨g1, g2, g3, u, t, g4, g5⟩
      exact ⟨by simp only [capSt, hasS, ne, Bool.false_or]; exact g1, by simp only [capSt]; rw [get_cons, if_neg nk]; exact g2, g3, u, t, by simpa using g4, g5⟩
    | none =>
      rintro ⟨g1, g2⟩
      exact ⟨by simp only [capSt, hasS, ne, Bool.false_or]; exact g1, by simpa using g2⟩
  | .unit, x, N, vs, t, _, _, hr, i => by
    simp only [Rel] at hr
    subst hr
    exact ⟨rfl, by simp⟩

/-- the values behind the last slot are cut off -/
theorem getD_app {tm vs : Array Value} {s : Nat} (h : s < tm.size) : (tm ++ vs).getD s undef = tm.getD s undef := by
  simp [Array.getD_eq_getD_getElem?, Array.getElem?_append_left h]
theorem SRel.drop {tm vs : Array Value} {st2 : St} (S : SRel σ h st2 (tm ++ vs) w) (st : St) (hlt : ∀ s, s < tm.size → st.get s = st2.get s) (hge : ∀ s, tm.size ≤ s → st.get s = none)
    (hp : ∀ s v, tm.size ≤ s → st2.get s = some v → v.T.pure = true ∨ v.T.closed = false) : SRel σ h st tm w := by
  have hin : ∀ s v, st.get s = some v → s < tm.size ∧ st2.get s = some v := fun s v hs => by
    by_cases hl : s < tm.size
    · exact ⟨hl, by rw [← hlt s hl]; exact hs⟩
    · rw [hge s (by omega)] at hs; cases hs
  have own : ∀ k, Owns st2 k → Owns st k := fun k ⟨v, h1, h2, h3⟩ => by
    by_cases hl : k < tm.size
    · exact ⟨v, by rw [hlt k hl]; exact h1, h2, h3⟩
    · rcases hp k v (by omega) h1 with hp | hp
      · rw [hp] at h2; cases h2
      · rw [hp] at h3; cases h3
  refine ⟨S.inv, fun s v hs => ?_, fun s v hs => S.typ s v (hin s v hs).2, fun s v u hs hu => ?_, fun b blk hb => ?_⟩
  · obtain ⟨h1, h2⟩ := hin s v hs
    have := (S.vals s v h2).2
    rw [getD_app h1] at this
    exact ⟨h1, this⟩
  · obtain ⟨k, r, e, ho⟩ := S.look s v u (hin s v hs).2 hu
    exact ⟨k, r, e, own k ho⟩
  · obtain ⟨k, r, e, ho⟩ := S.own b blk hb
    exact ⟨k, r, e, own k ho⟩
theorem allLt_has {N : Nat} : ∀ {us : St}, allLt N us = true → ∀ s, hasS us s = true → s < N
  | [], _, s, h => by cases h
  | (k, v) :: r, ha, s, h => by
    simp only [allLt, Bool.and_eq_true, Nat.blt_eq] at ha
    simp only [hasS, Bool.or_eq_true] at h
    rcases h with h | h
    · have := Nat.eq_of_beq_eq_true h; omega
    · exact allLt_has ha.2 s h
theorem withCaps_get {C : Ty} {x : C.den} {vs : List Value} {t : Tag} (hc : capsOk C = true) (hp : C.pure = true) (hr : Rel σ h C true x vs t) (S : SRel σ h st a.tmps w) :
    withCaps st.get a.tmps.size C x = St.get (capSt a.tmps.size C x ++ st) := by
  funext i
  have hno : ∀ s, a.tmps.size ≤ s → st.get s = none := fun s hs => by
    cases hg : st.get s with
    | none => rfl
    | some v => have := (S.vals s v hg).1; omega
  simp only [withCaps]
  rw [get_append]
  by_cases hi : i < a.tmps.size
  · have hf : hasS (capSt a.tmps.size C x) i = false := by
      cases hh : hasS (capSt a.tmps.size C x) i with
      | false => rfl
      | true => have := capSt_has hh; omega
    rw [hf, show Nat.blt i a.tmps.size = true by rw [Nat.blt_eq]; exact hi]
    rfl
  · have hb : Nat.blt i a.tmps.size = false := by
      cases hh : Nat.blt i a.tmps.size with
      | false => rfl
      | true => rw [Nat.blt_eq] at hh; omega
    rw [hb, cond_false]
    have := capSt_at (N := a.tmps.size) hc hp hr (i - a.tmps.size)
    rw [show a.tmps.size + (i - a.tmps.size) = i by omega] at this
    revert this
    cases capAt C x (i - a.tmps.size) with
    | some v => rintro ⟨g1, g2, _⟩; rw [g1, if_pos rfl, g2]
    | none => rintro ⟨g1, _⟩; rw [g1, if_neg (by simp), hno i (by omega)]
/-- the state with what was caught behind it -/
theorem SRel.caps {C : Ty} {x : C.den} {vs : List Value} {t : Tag} (hc : capsOk C = true) (hp : C.pure = true) (hr : Rel σ h C true x vs t) (S : SRel σ h st a.tmps w) :
    SRel σ h (capSt a.tmps.size C x ++ st) (a.tmps ++ ⟨vs⟩) w := by
  have hcap : ∀ s v, hasS (capSt a.tmps.size C x) s = true → St.get (capSt a.tmps.size C x) s = some v → v.T.pure = true ∧ ∃ u t, a.tmps.size ≤ s ∧ vs[s - a.tmps.size]? = some u ∧ VRel σ h v.T v.x u t := fun s v h1 h2 => by
    have hs := capSt_has h1
    have := capSt_at (N := a.tmps.size) hc hp hr (s - a.tmps.size)
    rw [show a.tmps.size + (s - a.tmps.size) = s by omega] at this
    revert this
    cases capAt C x (s - a.tmps.size) with
    | some v' =>
      rintro ⟨_, g2, g3, u, t, g4, g5⟩
      rw [h2] at g2
      injection g2 with g2
      subst g2
      exact ⟨g3, u, t, hs, g4, g5⟩
    | none => rintro ⟨g1, _⟩; rw [g1] at h1; cases h1
  have hold : ∀ s v, hasS (capSt a.tmps.size C x) s = false → St.get (capSt a.tmps.size C x ++ st) s = some v → st.get s = some v := fun s v h1 h2 => by rw [get_append, h1] at h2; exact h2
  have own : ∀ k, Owns st k → Owns (capSt a.tmps.size C x ++ st) k := fun k ⟨v, h1, h2, h3⟩ => by
    have hl := (S.vals k v h1).1
    refine ⟨v, ?_, h2, h3⟩
    rw [get_append]
    have hf : hasS (capSt a.tmps.size C x) k = false := by
      cases hh : hasS (capSt a.tmps.size C x) k with
      | false => rfl
      | true => have := capSt_has hh; omega
    rw [hf]; exact h1
  refine ⟨S.inv, fun s v hs => ?_, fun s v hs => ?_, fun s v u hs hu => ?_, fun b blk hb => ?_⟩
  · cases hh : hasS (capSt a.tmps.size C x) s with
    | true =>
      rw [get_append, hh, if_pos rfl] at hs
      obtain ⟨g1, u, t, g2, g3, g4⟩ := hcap s v hh hs
      have hl := (List.getElem?_eq_some_iff.1 g3).1
      refine ⟨by simp; omega, ?_⟩
      have : (a.tmps ++ (⟨vs⟩ : Array Value)).getD s undef = u := by
        rw [Array.getD_eq_getD_getElem?, Array.getElem?_append_right g2, List.getElem?_toArray, g3]; rfl
      rw [this]
      exact g4.pure σ.le_refl g1
    | false =>
      have := S.vals s v (hold s v hh hs)
      exact ⟨by simp; omega, by rw [getD_app this.1]; exact this.2⟩
  · cases hh : hasS (capSt a.tmps.size C x) s with
    | true =>
      rw [get_append, hh, if_pos rfl] at hs
      exact pure_okTop (hcap s v hh hs).1
    | false => exact S.typ s v (hold s v hh hs)
  · cases hh : hasS (capSt a.tmps.size C x) s with
    | true =>
      rw [get_append, hh, if_pos rfl] at hs
      rw [pure_looks (hcap s v hh hs).1] at hu; cases hu
    | false =>
      obtain ⟨k, r, e, ho⟩ := S.look s v u (hold s v hh hs) hu
      exact ⟨k, r, e, own k ho⟩
  · obtain ⟨k, r, e, ho⟩ := S.own b blk hb
    exact ⟨k, r, e, own k ho⟩
theorem argOk_caps : ∀ {N : Nat} {C : Ty} {x : C.den} {vs : List Value} {t : Tag}, capsOk C = true → Rel σ h C true x vs t → argOk (capArgs N C) ((List.range vs.length).map fun i => .tmp (N + i)) = true
  | N, .pair A B, x, vs, t, hc, hr => by
    simp only [Rel] at hr
    obtain ⟨v, d, rfl, _, h2⟩ := hr
    have ih := argOk_caps (N := N + 1) (show capsOk B = true from hc) h2
    simp only [List.length_cons, List.range_succ_eq_map, List.map_cons, List.map_map, capArgs, argOk, opdOk, Nat.add_zero]
    rw [show ((fun i => Operand.tmp (N + i)) ∘ Nat.succ) = fun i => Operand.tmp (N + 1 + i) from funext fun i => by simp [Nat.add_comm, Nat.add_left_comm], ih]
    simp
  | N, .unit, x, vs, t, _, hr => by
    simp only [Rel] at hr
    subst hr
    rfl
theorem argOk_append : ∀ {as bs : List Arg} {xs ys : List Operand}, argOk as xs = true → argOk bs ys = true → argOk (as ++ bs) (xs ++ ys) = true
  | [], bs, [], ys, _, h => h
  | [], _, _ :: _, _, h, _ => by cases h
  | a :: _, _, [], _, h, _ => by cases a <;> simp [argOk] at h
  | .v _ :: _, _, _ :: _, _, h, k => by simp only [argOk, Bool.and_eq_true] at h; simp only [List.cons_append, argOk, Bool.and_eq_true]; exact ⟨h.1, argOk_append h.2 k⟩
  | .k _ :: _, _, _ :: _, _, h, k => by simp only [argOk, Bool.and_eq_true] at h; simp only [List.cons_append, argOk, Bool.and_eq_true]; exact ⟨h.1, argOk_append h.2 k⟩
  | .m _ :: _, _, _ :: _, _, h, k => by simp only [argOk, Bool.and_eq_true] at h; simp only [List.cons_append, argOk, Bool.and_eq_true]; exact ⟨h.1, argOk_append h.2 k⟩
  | .l _ :: _, _, _ :: _, _, h, k => by simp only [argOk, Bool.and_eq_true] at h; simp only [List.cons_append, argOk, Bool.and_eq_true]; exact ⟨h.1, argOk_append h.2 k⟩
  | .r _ :: _, _, _ :: _, _, h, k => by simp only [argOk, Bool.and_eq_true] at h; simp only [List.cons_append, argOk, Bool.and_eq_true]; exact ⟨h.1, argOk_append h.2 k⟩
theorem op_callX {a2 : Act} {d : Option Nat} {sp : FSpec} {as : List Arg} {xs : Array Operand} (hs : Meets P sp) (hok : spOk sp = true) (S : SRel σ h st a2.tmps w)
    (hE : Enters P sp.f → (execOp a.eval o).run P w = .ok (.enter sp.f (xs.map a2.eval)) w) (hV : ∀ v w', (callFunc sp.f (xs.map a2.eval)).run P w = .ok (.value v) w' → (execOp a.eval o).run P w = .ok (.value v) w') (hdst : o.dst = d) (hdn : ∀ d', d = some d' → d' < a2.tmps.size) (hargs : argOk as xs.toList = true)
    (hK : callEv st.get d sp as K = some r) :
    o.wp P a w (fun a' w' => ∃ v σ' h' us ks, a' = a.put o.dst v ∧ K us ks = some r ∧ Ext w σ h w' σ' h' ∧ SStep h st a2.tmps us ks σ' h' (a2.put d v).tmps w' ∧ Stay h h' st us ks) Q := by
  simp only [callEv] at hK
  obtain ⟨hc, hK⟩ := bif_some hK
  simp only [Bool.and_eq_true, Bool.or_eq_true, Bool.not_eq_true'] at hc
  obtain ⟨⟨hap, hvw⟩, hsh⟩ := hc
  rw [argsK_nat] at hK
  cases hx : argsK st.get sp.ps as some with
  | none => rw [hx] at hK; cases hK
  | some x =>
    rw [hx] at hK
    simp only [Option.bind_some] at hK
    cases hy : sp.run x with
    | none => rw [hy] at hK; cases hK
    | some y =>
      rw [hy] at hK
      simp only [Option.bind_some] at hK
      have hbk := (N_backK (g := st.get) sp.ps as sp.r y [] []) R (fun p => callK st.get sp as d K p.1 p.2.1 p.2.2)
      have hK' : backK st.get sp.ps as sp.r y [] [] (fun z us ks => callK st.get sp as d K z us ks) = some r := hK
      clear hK
      have hK := hbk.symm.trans hK'
      clear hK' hbk
      replace hK : (backK st.get sp.ps as sp.r y [] [] (fun x us ks => some (x, us, ks))).bind (fun p => callK st.get sp as d K p.1 p.2.1 p.2.2) = some r := hK
      cases hb : backK st.get sp.ps as sp.r y [] [] (fun x us ks => some (x, us, ks)) with
      | none => rw [hb] at hK; cases hK
      | some q =>
        obtain ⟨z, us, ks⟩ := q
        rw [hb] at hK
        simp only [Option.bind_some] at hK
        obtain ⟨us2, hus2, hK2, hd⟩ : ∃ us2, (us2 = match d with | some d' => (d', some ⟨sp.r, z⟩) :: us | none => us) ∧ K us2 ks = some r ∧ (∀ d', d = some d' → fresh st.get d' = true ∧ headIn (lentTags st.get as) d' = false ∧ d' < a2.tmps.size) := by
          cases d with
          | none => exact ⟨us, rfl, hK, fun d' e => by cases e⟩
          | some d' =>
            obtain ⟨hc, hK⟩ := bif_some (show (bif fresh st.get d' && sp.r.closed && !((us.map (·.1)).contains d') && !headIn (lentTags st.get as) d' then K ((d', some ⟨sp.r, z⟩) :: us) ks else none) = some r from hK)
            simp only [Bool.and_eq_true, Bool.not_eq_true'] at hc
            refine ⟨_, rfl, hK, fun d'' e => ?_⟩
            injection e with e
            subst e
            exact ⟨hc.1.1.1, hc.2, hdn _ rfl⟩
        have hfree : shares st.get as = true → sp.r.free = true ∧ lentFree sp.ps = true := fun hh => by
          rcases hsh with hsh | hsh
          · rw [hh] at hsh; cases hsh
          · exact hsh
        obtain ⟨hsz, hcal⟩ := callee_rel S hok hap hargs hx hvw
        have hcalls := hs.ok x y hy _ _ w _ hsz hcal
        unfold Oper.wp
        rcases hcalls with ⟨hent, hcalls⟩ | ⟨v, w', hv, he⟩
        · rw [hE hent, Oper.upon_enter]
          refine hcalls.mono ?_
          intro e w' he
          cases e with
          | returned v =>
            obtain ⟨σ', h1, E, S1⟩ := he
            obtain ⟨σ2, h2, E2, St2, Y2⟩ := caller_rel S hok hap hargs hx hb hfree E S1 hd (us2 := us2) (by cases d with | none => exact hus2 | some d' => exact hus2)
            exact ⟨v, σ2, h2, us2, ks, rfl, hK2, E2, St2, Y2⟩
          | panicked _ => exact he.elim
          | outgrown => exact he.elim
        · rw [hV v w' hv, Oper.upon_value]
          obtain ⟨σ', h1, E, S1⟩ := he
          obtain ⟨σ2, h2, E2, St2, Y2⟩ := caller_rel S hok hap hargs hx hb hfree E S1 hd (us2 := us2) (by cases d with | none => exact hus2 | some d' => exact hus2)
          exact ⟨v, σ2, h2, us2, ks, rfl, hK2, E2, St2, Y2⟩
theorem put_app {tm vs : Array Value} {d : Option Nat} {v : Value} (hd : ∀ d', d = some d' → d' < tm.size) {df df' : List Deferred} : ((⟨tm ++ vs, df⟩ : Act).put d v).tmps = ((⟨tm, df'⟩ : Act).put d v).tmps ++ vs := by
  cases d with
  | none => rfl
  | some d' =>
    have := hd d' rfl
    show (tm ++ vs).setIfInBounds d' v = tm.setIfInBounds d' v ++ vs
    apply Array.ext'
    simp [List.set_append_left _ _ (show d' < tm.toList.length by simpa using this)]
theorem op_callV {d : Option Nat} {sp : FSpec} {s N : Nat} {as : List Arg} {c : Operand} {xs : List Operand} {ts : Array TypeId} (hs : Meets P sp) (hok : spOk sp = true) (S : SRel σ h st a.tmps w)
    (hop : o.op = .call { callee := .value c, args := ⟨xs⟩, argTypes := ts }) (hdst : o.dst = d) (hdn : ∀ d', d = some d' → d' < N) (hc : opdOk (.t s) c = true) (hargs : argOk as xs = true) (hb : xs.all (opBelow N) = true) (hn : a.tmps.size = N)
    (hK : evOp st.get K (.callV d sp s N as) = some r) : o.wp P a w (Post σ h w st K r a) Q := by
  subst hn
  simp only [evOp] at hK
  split at hK
  case h_2 => cases hK
  rename_i f C x hg
  obtain ⟨hcc, hK⟩ := bif_some hK
  simp only [Bool.and_eq_true] at hcc
  obtain ⟨⟨hf, hp⟩, hco⟩ := hcc
  have := Nat.eq_of_beq_eq_true hf
  subst this
  obtain ⟨_, cs, hw, hr⟩ := S.vals s _ hg
  simp only [Rel] at hr
  obtain ⟨vs, rfl, hr⟩ := hr
  simp only [Ty.agg, wr, List.cons.injEq, and_true] at hw
  have hev : a.eval c = .func (.func sp.f) #[] ⟨vs⟩ := by rw [opdT_eval hc, ← hw]
  have S2 := S.caps hco hp hr
  rw [withCaps_get hco hp hr S] at hK
  let a2 : Act := ⟨a.tmps ++ ⟨vs⟩, a.defers⟩
  let xs2 : Array Operand := ⟨xs ++ (List.range vs.length).map fun i => .tmp (a.tmps.size + i)⟩
  have hvs : xs2.map a2.eval = (⟨xs⟩ : Array Operand).map a.eval ++ ⟨vs⟩ := by
    apply Array.ext'
    simp only [xs2, Array.toList_map, Array.toList_append, List.map_append, List.map_map]
    congr 1
    · refine List.map_congr_left fun x hx => ?_
      have := List.all_eq_true.1 hb x hx
      cases x with
      | tmp t =>
        simp only [opBelow, Nat.blt_eq] at this
        exact getD_app this
      | _ => rfl
    · apply List.ext_getElem
      · simp
      · intro i h1 h2
        simp only [List.length_map, List.length_range] at h1
        simp only [List.getElem_map, List.getElem_range, Function.comp]
        show (a.tmps ++ (⟨vs⟩ : Array Value)).getD (a.tmps.size + i) undef = _
        rw [Array.getD_eq_getD_getElem?, Array.getElem?_append_right (by omega), List.getElem?_toArray, Nat.add_sub_cancel_left, List.getElem?_eq_getElem h1]
        rfl
  have hex : execOp a.eval o = callFunc sp.f (xs2.map a2.eval) := by
    rw [hvs]
    unfold execOp
    rw [hop]
    have e : ∀ u : Value, u = .func (.func sp.f) #[] ⟨vs⟩ → (do let q ← Deferred.ofValue u ((⟨xs⟩ : Array Operand).map a.eval); invoke q.target q.args) = callFunc sp.f ((⟨xs⟩ : Array Operand).map a.eval ++ ⟨vs⟩) := fun u hu => by
      subst hu
      show callFunc sp.f ((#[] ++ (⟨xs⟩ : Array Operand).map a.eval) ++ ⟨vs⟩) = _
      rw [Array.empty_append]
    exact e _ hev
  have key := op_callX (a := a) (a2 := a2) (o := o) (Q := Q) (d := d) (xs := xs2) hs hok S2 (fun he => by
      obtain ⟨fn, h1, h2, h3⟩ := he
      rw [hex]
      unfold callFunc
      have h3' : ¬ (fn.name = "runtime.NumGoroutine") := by simpa using h3
      have h2' : ¬ (fn.body = none) := fun e => by rw [e] at h2; cases h2
      simp [h1, h2', h3']) (fun v w' hv => by rw [hex]; exact hv) hdst (fun d' e => by show d' < (a.tmps ++ _).size; simp; have := hdn d' e; omega)
    (argOk_append hargs (argOk_caps hco hr)) hK
  refine Oper.wp_mono ?_ key
  rintro a' w' ⟨v, σ', h', us, ks, rfl, k1, k2, k3, k4⟩
  obtain ⟨hlt, k1⟩ := bif_some k1
  have hus := allLt_has hlt
  have hput : (a2.put d v).tmps = (a.put d v).tmps ++ ⟨vs⟩ := put_app hdn
  have hsz : (a.put d v).tmps.size = a.tmps.size := by cases d <;> simp [Act.put]
  have hno : ∀ s, a.tmps.size ≤ s → st.get s = none := fun s hs => by
    cases hg : st.get s with
    | none => rfl
    | some v => have := (S.vals s v hg).1; omega
  have hcapf : ∀ s, s < a.tmps.size → hasS (capSt a.tmps.size C x) s = false := fun s hs => by
    cases hh : hasS (capSt a.tmps.size C x) s with
    | false => rfl
    | true => have := capSt_has hh; omega
  have hnus : ∀ s, a.tmps.size ≤ s → hasS us s = false := fun s hs => by
    cases hh : hasS us s with
    | false => rfl
    | true => have := hus s hh; omega
  have hupd : ∀ s, s < a.tmps.size → St.get (st.upd us ks) s = St.get (St.upd (capSt a.tmps.size C x ++ st) us ks) s := fun s hs => by
    rw [get_upd, get_upd, get_append, hcapf s hs]; rfl
  have hupdn : ∀ s, a.tmps.size ≤ s → St.get (st.upd us ks) s = none := fun s hs => by
    rw [get_upd, hnus s hs, hno s hs]; rfl
  have hpu : ∀ s v, a.tmps.size ≤ s → St.get (St.upd (capSt a.tmps.size C x ++ st) us ks) s = some v → v.T.pure = true := fun s v hs hv => by
    rw [get_upd, hnus s hs, get_append] at hv
    simp only [Bool.false_eq_true, if_false] at hv
    have := capSt_at (N := a.tmps.size) hco hp hr (s - a.tmps.size)
    rw [show a.tmps.size + (s - a.tmps.size) = s by omega] at this
    revert this
    cases capAt C x (s - a.tmps.size) with
    | some v' =>
      rintro ⟨g1, g2, g3, _⟩
      rw [g1, if_pos rfl, g2] at hv
      simp only at hv
      split at hv
      · cases hv
      · injection hv with hv; subst hv; exact g3
    | none =>
      rintro ⟨g1, _⟩
      rw [g1, if_neg (by simp), hno s hs] at hv
      cases hv
  refine ⟨σ', h', us, ks, k1, k2, ?_, by cases hh : o.dst <;> rfl, by cases hh : o.dst <;> simp [Act.put]⟩
  rw [hdst]
  refine ⟨SRel.drop (vs := ⟨vs⟩) (by rw [← hput]; exact k3.rel) _ (fun s hs => hupd s (by rw [← hsz]; exact hs)) (fun s hs => hupdn s (by rw [← hsz]; exact hs)) (fun s v hs hv => .inl (hpu s v (by rw [← hsz]; exact hs) hv)), k3.keep, hsz, fun s hs => ?_⟩
  have k5 := k3.tms.2 s hs
  by_cases hl : s < a.tmps.size
  · rw [hput, getD_app (by rw [hsz]; exact hl)] at k5
    rw [k5]
    exact getD_app hl
  · rw [Array.getD_eq_getD_getElem?, Array.getD_eq_getD_getElem?, Array.getElem?_eq_none (by omega), Array.getElem?_eq_none (by omega)]

/-! a function value that has caught one pointer -/
theorem op_mkfp {d : Nat} {f : FuncId} {s : Nat} {x : Operand} (S : SRel σ h st a.tmps w) (hop : o.op = .makeFunc (.func f) #[] ⟨[x]⟩) (hd : dstOk a.tmps.size o d = true) (hx : opdOk (.t s) x = true)
    (hK : evOp st.get K (.mkfp d f s) = some r) : o.wp P a w (Post σ h w st K r a) Q := by
  simp only [evOp] at hK
  split at hK
  case h_2 => cases hK
  rename_i u of sr m p i hg
  obtain ⟨hc, hK⟩ := bif_some hK
  simp only [Bool.and_eq_true] at hc
  have e1 := Nat.eq_of_beq_eq_true hc.1
  have e2 := Nat.eq_of_beq_eq_true hc.2
  subst e1 e2
  obtain ⟨⟨cc, hw, hr⟩, hok, hlk⟩ := gp_rel S hg
  simp only [Rel] at hr
  obtain ⟨bk, ch, e1, e2, e3⟩ := hr
  have hev := opdT_eval (a := a) hx
  have hxv : a.eval x = .pointer (some ⟨bk, 0, none⟩) := by
    have := slot_single rfl hw
    rw [hev]; rw [this] at e1; injection e1 with e1; rw [e1]; simp
  have hex : (execOp a.eval o).run P w = .ok (.value (.func (.func f) #[] ⟨[.pointer (some ⟨bk, 0, none⟩)]⟩)) w := by
    unfold execOp
    rw [hop]
    simp only [Instr.makeFunc]
    have : (⟨[x]⟩ : Array Operand).map a.eval = ⟨[.pointer (some ⟨bk, 0, none⟩)]⟩ := by simp [hxv]
    show Result.ok (Next.value (Value.func (.func f) (#[].map a.eval) ((⟨[x]⟩ : Array Operand).map a.eval))) w = _
    rw [this]; simp
  refine wp_put (v := ⟨.fnp f u, ()⟩) S hd hK hex rfl rfl rfl rfl ⟨[_], rfl, ?_⟩ rfl hlk
  simp only [Rel]
  exact ⟨bk, ch, rfl, e2⟩
theorem op_callF {d : Option Nat} {sp : FSpec} {s N : Nat} {as : List Arg} {c : Operand} {xs : List Operand} {ts : Array TypeId} (hs : Meets P sp) (hok : spOk sp = true) (S : SRel σ h st a.tmps w)
    (hop : o.op = .call { callee := .value c, args := ⟨xs⟩, argTypes := ts }) (hdst : o.dst = d) (hdn : ∀ d', d = some d' → d' < N) (hc : opdOk (.t s) c = true) (hargs : argOk as xs = true) (hb : xs.all (opBelow N) = true) (hn : a.tmps.size = N)
    (hK : evOp st.get K (.callF d sp s N as) = some r) : o.wp P a w (Post σ h w st K r a) Q := by
  subst hn
  simp only [evOp] at hK
  split at hK
  case h_2 => cases hK
  rename_i f u x hg
  obtain ⟨hf, hK2⟩ := bif_some hK
  clear hK
  have := Nat.eq_of_beq_eq_true hf
  subst this
  obtain ⟨_, cs, hw, hr⟩ := S.vals s _ hg
  simp only [Rel] at hr
  obtain ⟨bk, ch, rfl, hbk⟩ := hr
  simp only [Ty.agg, wr, List.cons.injEq, and_true] at hw
  obtain ⟨k0, r0, hu0, ho0⟩ := S.look s _ u hg rfl
  let vs : List Value := [.pointer (some ⟨bk, 0, none⟩)]
  let pv : SV := ⟨.ptr u 0 0 1 [], (0 : Int)⟩
  let st2 : St := (a.tmps.size, some pv) :: st
  have hev : a.eval c = .func (.func sp.f) #[] ⟨vs⟩ := by rw [opdT_eval hc, ← hw]
  have hno : ∀ s, a.tmps.size ≤ s → st.get s = none := fun s hs => by
    cases hg : st.get s with
    | none => rfl
    | some v => have := (S.vals s v hg).1; omega
  have own : ∀ k, Owns st k → Owns st2 k := fun k ⟨v, h1, h2, h3⟩ => by
    have hl := (S.vals k v h1).1
    refine ⟨v, ?_, h2, h3⟩
    show St.get (_ :: st) k = _
    rw [get_cons, if_neg (by omega)]; exact h1
  have hold : ∀ s v, St.get st2 s = some v → s ≠ a.tmps.size → st.get s = some v := fun s v h1 h2 => by
    have h1 : St.get (_ :: st) s = some v := h1
    rw [get_cons, if_neg (fun e => h2 e.symm)] at h1; exact h1
  have hnew : ∀ v, St.get st2 a.tmps.size = some v → v = pv := fun v h1 => by
    have h1 : St.get (_ :: st) a.tmps.size = some v := h1
    rw [get_cons, if_pos rfl] at h1; injection h1 with h1; exact h1.symm
  have S2 : SRel σ h st2 (a.tmps ++ ⟨vs⟩) w := by
    refine ⟨S.inv, fun s v hs => ?_, fun s v hs => ?_, fun s v u' hs hu => ?_, fun b blk hb => ?_⟩
    · by_cases he : s = a.tmps.size
      · subst he
        have := hnew v hs
        subst this
        refine ⟨by simp [vs], [_], rfl, ?_⟩
        have : (a.tmps ++ (⟨vs⟩ : Array Value)).getD a.tmps.size undef = .pointer (some ⟨bk, 0, none⟩) := by
          rw [Array.getD_eq_getD_getElem?, Array.getElem?_append_right (Nat.le_refl _), Nat.sub_self]; rfl
        rw [this]
        simp only [pv, Rel]
        exact ⟨bk, ch, by simp, hbk, by simp⟩
      · have := S.vals s v (hold s v hs he)
        exact ⟨by simp; omega, by rw [getD_app this.1]; exact this.2⟩
    · by_cases he : s = a.tmps.size
      · subst he
        have := hnew v hs
        subst this
        rfl
      · exact S.typ s v (hold s v hs he)
    · by_cases he : s = a.tmps.size
      · subst he
        have := hnew v hs
        subst this
        injection hu with hu
        subst hu
        exact ⟨k0, r0, hu0, own _ ho0⟩
      · obtain ⟨k, r, e, ho⟩ := S.look s v u' (hold s v hs he) hu
        exact ⟨k, r, e, own k ho⟩
    · obtain ⟨k, r, e, ho⟩ := S.own b blk hb
      exact ⟨k, r, e, own k ho⟩
  have hget : withCaps st.get a.tmps.size (.pair (.ptr u 0 0 1 []) .unit) ((0 : Int), ()) = St.get st2 := by
    funext i
    show _ = St.get (_ :: st) i
    rw [get_cons]
    simp only [withCaps]
    by_cases hi : i < a.tmps.size
    · rw [show Nat.blt i a.tmps.size = true by rw [Nat.blt_eq]; exact hi, cond_true, if_neg (by omega)]
    · have hb : Nat.blt i a.tmps.size = false := by
        cases hh : Nat.blt i a.tmps.size with
        | false => rfl
        | true => rw [Nat.blt_eq] at hh; omega
      rw [hb, cond_false]
      by_cases he : a.tmps.size = i
      · rw [if_pos he, ← he, Nat.sub_self]; rfl
      · rw [if_neg he, hno i (by omega)]
        obtain ⟨m, hm⟩ : ∃ m, i - a.tmps.size = m + 1 := ⟨i - a.tmps.size - 1, by omega⟩
        rw [hm]; rfl
  rw [hget] at hK2
  let a2 : Act := ⟨a.tmps ++ ⟨vs⟩, a.defers⟩
  let xs2 : Array Operand := ⟨xs ++ [.tmp a.tmps.size]⟩
  have hvs : xs2.map a2.eval = (⟨xs⟩ : Array Operand).map a.eval ++ ⟨vs⟩ := by
    apply Array.ext'
    simp only [xs2, Array.toList_map, Array.toList_append, List.map_append]
    congr 1
    · refine List.map_congr_left fun x hx => ?_
      have := List.all_eq_true.1 hb x hx
      cases x with
      | tmp t =>
        simp only [opBelow, Nat.blt_eq] at this
        exact getD_app this
      | _ => rfl
    · simp only [List.map_cons, List.map_nil, vs]
      congr 1
      show (a.tmps ++ (⟨vs⟩ : Array Value)).getD a.tmps.size undef = _
      rw [Array.getD_eq_getD_getElem?, Array.getElem?_append_right (Nat.le_refl _), Nat.sub_self]; rfl
  have hex : execOp a.eval o = callFunc sp.f (xs2.map a2.eval) := by
    rw [hvs]
    unfold execOp
    rw [hop]
    have e : ∀ u : Value, u = .func (.func sp.f) #[] ⟨vs⟩ → (do let q ← Deferred.ofValue u ((⟨xs⟩ : Array Operand).map a.eval); invoke q.target q.args) = callFunc sp.f ((⟨xs⟩ : Array Operand).map a.eval ++ ⟨vs⟩) := fun u hu => by
      subst hu
      show callFunc sp.f ((#[] ++ (⟨xs⟩ : Array Operand).map a.eval) ++ ⟨vs⟩) = _
      rw [Array.empty_append]
    exact e _ hev
  have key := op_callX (a := a) (a2 := a2) (o := o) (Q := Q) (d := d) (xs := xs2) hs hok S2 (fun he => by
      obtain ⟨fn, h1, h2, h3⟩ := he
      rw [hex]
      unfold callFunc
      have h3' : ¬ (fn.name = "runtime.NumGoroutine") := by simpa using h3
      have h2' : ¬ (fn.body = none) := fun e => by rw [e] at h2; cases h2
      simp [h1, h2', h3']) (fun v w' hv => by rw [hex]; exact hv) hdst (fun d' e => by show d' < (a.tmps ++ _).size; simp; have := hdn d' e; omega)
    (argOk_append hargs (by simp [argOk, opdOk])) hK2
  refine Oper.wp_mono ?_ key
  rintro a' w' ⟨v, σ', h', us, ks, rfl, k1, k2, k3, k4⟩
  obtain ⟨hlt, k1⟩ := bif_some k1
  have hus := allLt_has hlt
  have hput : (a2.put d v).tmps = (a.put d v).tmps ++ ⟨vs⟩ := put_app hdn
  have hsz : (a.put d v).tmps.size = a.tmps.size := by cases d <;> simp [Act.put]
  have hnus : ∀ s, a.tmps.size ≤ s → hasS us s = false := fun s hs => by
    cases hh : hasS us s with
    | false => rfl
    | true => have := hus s hh; omega
  have hupd : ∀ s, s < a.tmps.size → St.get (st.upd us ks) s = St.get (St.upd st2 us ks) s := fun s hs => by
    have hgs : St.get st2 s = st.get s := by
      show St.get (_ :: st) s = _
      rw [get_cons, if_neg (show ¬ a.tmps.size = s by omega)]
    rw [get_upd, get_upd, hgs]
  have hupdn : ∀ s, a.tmps.size ≤ s → St.get (st.upd us ks) s = none := fun s hs => by
    rw [get_upd, hnus s hs, hno s hs]; rfl
  have hpu : ∀ s v, a.tmps.size ≤ s → St.get (St.upd st2 us ks) s = some v → v.T.closed = false := fun s v hs hv => by
    rw [get_upd, hnus s hs] at hv
    have hgs : St.get st2 s = if a.tmps.size = s then some pv else st.get s := by
      show St.get (_ :: st) s = _
      rw [get_cons]
    rw [hgs] at hv
    by_cases he : a.tmps.size = s
    · rw [if_pos he] at hv
      simp only [Bool.false_eq_true, if_false] at hv
      split at hv
      · cases hv
      · injection hv with hv; subst hv; rfl
    · rw [if_neg he, hno s hs] at hv
      cases hv
  refine ⟨σ', h', us, ks, k1, k2, ?_, by cases hh : o.dst <;> rfl, by cases hh : o.dst <;> simp [Act.put]⟩
  rw [hdst]
  refine ⟨SRel.drop (vs := ⟨vs⟩) (by rw [← hput]; exact k3.rel) _ (fun s hs => hupd s (by rw [← hsz]; exact hs)) (fun s hs => hupdn s (by rw [← hsz]; exact hs)) (fun s v hs hv => .inr (hpu s v (by rw [← hsz]; exact hs) hv)), k3.keep, hsz, fun s hs => ?_⟩
  have k5 := k3.tms.2 s hs
  by_cases hl : s < a.tmps.size
  · rw [hput, getD_app (by rw [hsz]; exact hl)] at k5
    rw [k5]
    exact getD_app hl
  · rw [Array.getD_eq_getD_getElem?, Array.getD_eq_getD_getElem?, Array.getElem?_eq_none (by omega), Array.getElem?_eq_none (by omega)]
end
end Go.Proofs.Bw
namespace Go.Proofs.Bw
open Go

section
variable {P : Program} {R : Type} {σ : Sg} {h : Hp} {st : St} {a : Act} {w : World} {K : St → List Tag → Option R} {r : R} {o : Oper} {Q : Exit → Act → World → Prop} {tab : Tab}

/-- a slot is written, others are emptied -/
theorem SRel.drops {tm : Array Value} (S : SRel σ h st tm w) {d : Nat} {v : SV} {val : Value} {l : List Nat} (hf : fresh st.get d = true) (hsz : d < tm.size) (hp : v.T.pure = true) {t : Tag} (hval : VRel σ h v.T v.x val t) :
    ∃ h', (∀ b, h b = none → h' b = none) ∧ SStep h st tm ((d, some v) :: none2 l) (tags1 l) σ h' (tm.setIfInBounds d val) w := by
  have hno := not_owns_of_fresh hf
  let h' := hpart (fun k => !memN l k) h
  have hhas : ∀ k, hasS ((d, some v) :: none2 l) k = true ↔ (k = d ∨ k ∈ l) := by
    intro k
    simp only [hasS, Bool.or_eq_true, none2_has]
    rw [beq_iff]; simp [eq_comm]
  have hget : ∀ k, St.get ((d, some v) :: none2 l) k = if d = k then some v else none := by
    intro k
    rw [get_cons]
    split
    · rfl
    · exact none2_get
  refine ⟨h', fun b hb => hpart_none hb, SRel.upd2 S _ _ σ.le_refl (S.inv.sub fun b x hb => (hpart_some hb).1) (fun b blk k r hb ht hk => ?_) (fun b blk hb => ?_) (fun s v' hs hv' => ?_) ⟨by simp, fun s hs => ?_⟩ (fun s v' k r hs hns hlk hk hok hdead => ?_)⟩
  · refine hpart_of hb ht ?_
    cases hm : memN l k with
    | false => rfl
    | true => rw [(hhas k).2 (.inr (memN_iff.1 hm))] at hk; cases hk
  · obtain ⟨h0, k, q, ht, hk⟩ := hpart_some hb
    obtain ⟨k', r', e, ho⟩ := S.own b blk h0
    rw [ht] at e
    injection e with e _
    subst e
    have hns : hasS ((d, some v) :: none2 l) k = false := by
      cases hh : hasS ((d, some v) :: none2 l) k with
      | false => rfl
      | true =>
        rcases (hhas k).1 hh with e | e
        · subst e; exact (hno ho).elim
        · rw [memN_iff.2 e] at hk; cases hk
    exact ⟨k, q, ht, fun hh => (by rw [hns] at hh; cases hh), fun _ => h0⟩
  · rw [hget] at hv'
    split at hv'
    · rename_i e
      subst e
      injection hv' with hv'
      subst hv'
      refine ⟨by simpa using hsz, ?_, .inl (Ty.closed_of_pure hp)⟩
      rw [getD_set, if_pos ⟨rfl, hsz⟩]
      exact hval.pure σ.le_refl hp
    · cases hv'
  · rw [getD_set, if_neg]
    rintro ⟨e, _⟩
    rw [(hhas s).2 (.inl e.symm)] at hs; cases hs
  · exfalso
    rcases (hhas k).1 hk with e | e
    · subst e; exact hno hok
    · have hm : [k] ∈ tags1 l := List.mem_map.2 ⟨k, e, rfl⟩
      rw [dead_of hlk hm (isPre_iff.2 ⟨r, rfl⟩)] at hdead; cases hdead
theorem op_pickG {d : Nat} {b1 b2 b3 : Opd} {l : List Nat} {x y z : Operand} (S : SRel σ h st a.tmps w) (hop : o.op = .pick x y z) (hd : dstOk a.tmps.size o d = true) (hx : opdOk b1 x = true) (hy : opdOk b2 y = true) (hz : opdOk b3 z = true)
    (hK : evOp st.get K (.pickG d b1 b2 b3 l) = some r) : o.wp P a w (Post σ h w st K r a) Q := by
  simp only [evOp] at hK
  split at hK
  · rename_i c hb1
    obtain ⟨c, rfl⟩ : ∃ b : Bool, b = c := ⟨c, rfl⟩
    obtain ⟨hc, hK⟩ := bif_some hK
    simp only [Bool.and_eq_true] at hc
    obtain ⟨h1, h2⟩ := dstOk_eq hd
    have e1 := opd_bool S hx hb1
    obtain ⟨v, hv, hK⟩ : ∃ v : Bool, (bif c then opv st.get b2 else opv st.get b3) = some ⟨.bool, v⟩ ∧ K ((d, some ⟨.bool, v⟩) :: none2 l) (tags1 l) = some r := by
      cases hov : (bif c then opv st.get b2 else opv st.get b3) with
      | none => rw [hov] at hK; cases hK
      | some u =>
        obtain ⟨T, v⟩ := u
        rw [hov] at hK
        cases T <;> first | (cases hK; done) | exact ⟨v, rfl, hK⟩
    · have e2 : (execOp a.eval o).run P w = .ok (.value (.bool v)) w := by
        unfold execOp
        rw [hop]
        cases c with
        | true => simp [e1, opd_bool S hy hv, asBool]
        | false => simp [e1, opd_bool S hz hv, asBool]
      obtain ⟨h', k1, k2⟩ := S.drops (d := d) (v := ⟨.bool, v⟩) (val := .bool v) (l := l) hc.1 h2 rfl (vrel_bool v [])
      unfold Oper.wp
      rw [e2, Oper.upon_value, h1]
      exact ⟨σ, h', _, _, hK, ⟨Nat.le_refl _, σ.le_refl, rfl, rfl, rfl, fun b _ hn => ⟨rfl, k1 b hn, fun _ => rfl⟩⟩, k2, rfl, by simp [Act.put]⟩
  · cases hK

/-! the check -/
def binN : BinOp → Nat
  | .add => 0 | .sub => 1 | .mul => 2 | .quo => 3 | .rem => 4 | .and => 5 | .or => 6 | .xor => 7 | .shl => 8 | .shr => 9 | .andNot => 10
  | .eql => 11 | .neq => 12 | .lss => 13 | .leq => 14 | .gtr => 15 | .geq => 16
def unN : UnOp → Nat
  | .neg => 0 | .xor => 1 | .not => 2 | .plus => 3
theorem binN_eq {x y : BinOp} (h : Nat.beq (binN x) (binN y) = true) : x = y := by
  have := Nat.eq_of_beq_eq_true h
  cases x <;> cases y <;> first | rfl | (simp [binN] at this)
theorem unN_eq {x y : UnOp} (h : Nat.beq (unN x) (unN y) = true) : x = y := by
  have := Nat.eq_of_beq_eq_true h
  cases x <;> cases y <;> first | rfl | (simp [unN] at this)
def cOk : Opd → Bool
  | .t _ => true
  | .c u => u.T.closed
theorem cOk_top {b : Opd} (h : cOk b = true) : ∀ u, b = .c u → u.T.okTop = true := fun u e => by subst e; exact closed_okTop h
theorem cOk_look {b : Opd} (h : cOk b = true) : ∀ u, b = .c u → ∀ t, u.T.looks = some t → ∃ k r, t = k :: r ∧ Owns st k := fun u e t ht => by
  subst e; rw [closed_looks h] at ht; cases ht
def isT : Opd → Bool
  | .t _ => true
  | .c _ => false
theorem isT_nc {b : Opd} (h : isT b = true) : ∀ u, b ≠ .c u := fun u e => by subst e; cases h
def isNil (k : Nat) : Operand → Bool
  | .const v => (match k, v with
    | 0, .slice none 0 0 => true
    | 1, .pointer none => true
    | _, _ => false)
  | _ => false
theorem isNil_eval {k : Nat} {x : Operand} (h : isNil k x = true) : a.eval x = nilVal k := by
  unfold isNil at h
  split at h
  · split at h <;> first | rfl | cases h
  · cases h
def arrChk (tab : Tab) (t es al : Nat) (ag : Bool) : Bool := bif Nat.beq al 0 then tabD tab t descStr else (tabArr tab t es al && (match tab.get t with
      | some i => (match descArr i.desc with | some (_, e) => tabSz tab e es ag | none => false)
      | none => false))
def sizeIs (tab : Tab) (t sz : Nat) : Bool := match tab.get t with | some i => Nat.beq i.size sz | none => false
def mvOp : Op → Option Operand
  | .move x => some x
  | .assign x => some x
  | _ => none
theorem mvOp_eq {op : Op} {x : Operand} (h : mvOp op = some x) : op = .move x ∨ op = .assign x := by
  cases op <;> simp [mvOp] at h
  · exact .inl (by rw [h])
  · exact .inr (by rw [h])
def callB : Op → Option (Builtin × List Operand × List TypeId)
  | .call ⟨.builtin b, ⟨xs⟩, ⟨ts⟩⟩ => some (b, xs, ts)
  | _ => none
theorem callB_eq {op : Op} {b : Builtin} {xs : List Operand} {ts : List TypeId} (h : callB op = some (b, xs, ts)) : op = .call { callee := .builtin b, args := ⟨xs⟩, argTypes := ⟨ts⟩ } := by
  unfold callB at h
  split at h
  · injection h with h
    injection h with h1 h
    injection h with h2 h3
    subst h1 h2 h3; rfl
  · cases h
def callF : Op → Option (FuncId × List Operand × Array TypeId)
  | .call ⟨.value (.func f), ⟨xs⟩, ts⟩ => some (f, xs, ts)
  | _ => none
theorem callF_eq {op : Op} {f : FuncId} {xs : List Operand} {ts : Array TypeId} (h : callF op = some (f, xs, ts)) : op = .call { callee := .value (.func f), args := ⟨xs⟩, argTypes := ts } := by
  unfold callF at h
  split at h
  · injection h with h
    injection h with h1 h
    injection h with h2 h3
    subst h1 h2 h3; rfl
  · cases h
def descIsInt : TypeDesc → Bool
  | .int _ => true
  | _ => false
def descMap : TypeDesc → Option (TypeId × TypeId)
  | .map k v => some (k, v)
  | _ => none
def mapOk (tab : Tab) (hd : List Nat) (t : TypeId) (k : Ty) : Bool := match tab.get t with
  | some i => (match descMap i.desc with
    | some (kt, _) => lay tab hd k (.inl kt) && keyT k && Nat.blt k.dep 9000
    | none => false)
  | none => false
def mzeroOk (tab : Tab) (t : TypeId) (z : SV) : Bool := match tab.get t with
  | some i => (match descMap i.desc with
    | some (_, vt) => (match tab.get vt with
      | some j => litV z.T z.x j.zero
      | none => false)
    | none => false)
  | none => false
def callW : Op → Option (Operand × List Operand)
  | .call ⟨.value c, ⟨xs⟩, _⟩ => some (c, xs)
  | _ => none
theorem callW_eq {op : Op} {c : Operand} {xs : List Operand} (h : callW op = some (c, xs)) : ∃ ts, op = .call { callee := .value c, args := ⟨xs⟩, argTypes := ts } := by
  unfold callW at h
  split at h
  · injection h with h
    injection h with h1 h2
    subst h1 h2; exact ⟨_, rfl⟩
  · cases h
def mkfnO : Op → Option (FuncId × List Operand)
  | .makeFunc (.func f) ⟨[]⟩ ⟨xs⟩ => some (f, xs)
  | _ => none
theorem mkfnO_eq {op : Op} {f : FuncId} {xs : List Operand} (h : mkfnO op = some (f, xs)) : op = .makeFunc (.func f) #[] ⟨xs⟩ := by
  unfold mkfnO at h
  split at h
  · injection h with h
    injection h with h1 h2
    subst h1 h2; rfl
  · cases h
/-- an operation of the evaluator and the machine's; calls: their functions keep their contracts -/
def opOk (tab : Tab) (hd : List Nat) (n : Nat) (op : XOp) (o : Oper) : Bool :=
  match op with
  | .mv d b => (match mvOp o.op with | some x => dstOk n o d && opdOk b x | none => false)
  | .take d s => (match mvOp o.op with | some x => dstOk n o d && opdOk (.t s) x | none => false)
  | .bor d s => (match mvOp o.op with | some x => dstOk n o d && opdOk (.t s) x | none => false)
  | .als d s => (match mvOp o.op with | some x => dstOk n o d && opdOk (.t s) x | none => false)
  | .frz d s => (match mvOp o.op with | some x => dstOk n o d && opdOk (.t s) x | none => false)
  | .idxE d b c es => (match o.op with | .indexAddr t x y => dstOk n o d && isT b && opdOk b x && opdOk c y && tabSl tab t es | _ => false)
  | .ldE d s sz ag => (match o.op with | .load t x => dstOk n o d && opdOk (.t s) x && tabSz tab t sz ag | _ => false)
  | .ldA d s sz => (match o.op with | .load t x => dstOk n o d && opdOk (.t s) x && tabSz tab t sz false | _ => false)
  | .stE s b sz => (match o.op with | .store t x y => o.dst.isNone && opdOk (.t s) x && opdOk b y && sizeIs tab t sz | _ => false)
  | .bin d bo b c => (match o.op with | .binOp bo' _ x y _ => Nat.beq (binN bo) (binN bo') && dstOk n o d && opdOk b x && opdOk c y | _ => false)
  | .eqs d neg b c T => (match o.op with
    | .binOp bo t x y _ => Nat.beq (binN bo) (binN (eqOp neg)) && dstOk n o d && opdOk b x && opdOk c y && lay tab hd T (.inl t) && Nat.blt T.dep 9999 && (T.agg || T.beq .bool) && (!T.agg || hd.contains t)
    | _ => false)
  | .un d u b => (match o.op with | .unOp u' _ x => Nat.beq (unN u) (unN u') && dstOk n o d && opdOk b x | _ => false)
  | .cvt d c b => (match o.op with
    | .convert s t x => dstOk n o d && opdOk b x && (match c with
      | .int k => cvtIok tab s t k
      | .b2s => tabD tab t descStr && tabD tab s (descBytes tab) && cOk b
      | .s2b => tabD tab s descStr && tabD tab t (descBytes tab)
      | .same => (tab.get s).isSome && tabD tab t descStr)
    | _ => false)
  | .len d b str => (match callB o.op with
    | some (.len, [x], [t]) => dstOk n o d && opdOk b x && tabD tab t (fun z => bif str then descStr z else descIsSl z)
    | _ => false)
  | .idxA d b c es al => (match o.op with | .indexAddr t x y => dstOk n o d && isT b && opdOk b x && opdOk c y && (bif Nat.beq al 0 then tabSl tab t es else tabArr tab t es al) | _ => false)
  | .idx d b c es ag al => (match o.op with | .index t x y => dstOk n o d && opdOk b x && opdOk c y && arrChk tab t es al ag | _ => false)
  | .ld d s sz ag => (match o.op with | .load t x => dstOk n o d && opdOk (.t s) x && tabSz tab t sz ag | _ => false)
  | .ldT d s sz ag => (match o.op with | .load t x => dstOk n o d && opdOk (.t s) x && tabSz tab t sz ag | _ => false)
  | .st s b sz => (match o.op with | .store t x y => o.dst.isNone && opdOk (.t s) x && opdOk b y && sizeIs tab t sz | _ => false)
  | .stS s b sz => (match o.op with | .store t x y => o.dst.isNone && opdOk (.t s) x && opdOk b y && sizeIs tab t sz | _ => false)
  | .stT s k sz => (match o.op with | .store t x y => o.dst.isNone && opdOk (.t s) x && opdOk (.t k) y && sizeIs tab t sz | _ => false)
  | .alloc d z => (match o.op with | .alloc e => dstOk n o d && zeroOk tab e z | _ => false)
  | .boxv d b => (match o.op with | .box _ x => dstOk n o d && opdOk b x | _ => false)
  | .boxT d s => (match o.op with | .box _ x => dstOk n o d && opdOk (.t s) x | _ => false)
  | .crefv d b => (match o.op with | .box _ x => dstOk n o d && opdOk b x | _ => false)
  | .fa d s m off => (match o.op with | .fieldAddr t x m' => Nat.beq m m' && dstOk n o d && opdOk (.t s) x && faOk tab t m off | _ => false)
  | .fld d b m off sz ag => (match o.op with | .field t x m' => Nat.beq m m' && dstOk n o d && opdOk b x && fldOk tab t m off sz ag | _ => false)
  | .build d z ps => (match o.op with | .build t ⟨parts⟩ => dstOk n o d && bldOk tab t z && partsB 0 ps parts | _ => false)
  | .bsl d e ps => (match o.op with | .buildSlice t len ⟨parts⟩ => dstOk n o d && bslOk tab t e.size len && partsOk 0 ps parts && Nat.beq len ps.length | _ => false)
  | .slc d b bl bh bm es => (match o.op with | .slice t x lo hi mx => dstOk n o d && opdOk b x && cOk b && optOk bl lo && optOk bh hi && optOk bm mx && slcOk tab t es && (mx.isNone || hi.isSome) | _ => false)
  | .app d s b eb es => (match callB o.op with
    | some (.append, [x, y], [t, u]) => dstOk n o d && opdOk (.t s) x && opdOk b y && cOk b && tabApp tab t es eb && tabSS tab u
    | _ => false)
  | .slcX d s hi es => (match o.op with | .slice t x none (some y) none => dstOk n o d && opdOk (.t s) x && opdOk hi y && slcOk tab t es | _ => false)
  | .mnx d mx b c => (match callB o.op with | some (bi, [x, y], [_, _]) => (match mx, bi with | true, .max => true | false, .min => true | _, _ => false) && dstOk n o d && opdOk b x && opdOk c y | _ => false)
  | .rng d b => (match o.op with | .range t x => dstOk n o d && opdOk b x && tabD tab t descStr | _ => false)
  | .nxt d s => (match o.op with | .next x true => dstOk n o d && opdOk (.t s) x | _ => false)
  | .mk d z bn bc eb => (match o.op with | .makeSlice t x y => dstOk n o d && opdOk bn x && opdOk bc y && mkOk tab t eb z | _ => false)
  | .ext d s m => (match o.op with | .extract x m' => Nat.beq m m' && dstOk n o d && opdOk (.t s) x | _ => false)
  | .pick d b1 b2 b3 => (match o.op with | .pick x y z => dstOk n o d && opdOk b1 x && opdOk b2 y && opdOk b3 z | _ => false)
  | .pickG d b1 b2 b3 _ => (match o.op with | .pick x y z => dstOk n o d && opdOk b1 x && opdOk b2 y && opdOk b3 z | _ => false)
  | .nilchk d b => (match o.op with | .nilCheck x => dstOk n o d && opdOk b x && isT b | _ => false)
  | .eqnil d b neg sl => (match o.op with
    | .binOp bo t x y _ => Nat.beq (binN bo) (binN (eqOp neg)) && dstOk n o d && opdOk b x && isNil (bif sl then 0 else 1) y && tabD tab t (fun z => bif sl then descIsSl z else descIsPtr z)
    | _ => false)
  | .call d sp as => (match callF o.op with
    | some (f, xs, _) => Nat.beq f sp.f && spOk sp && argOk as xs && (match o.dst, d with
      | some x, some y => Nat.beq x y && Nat.blt x n
      | none, none => true
      | _, _ => false)
    | none => false)
  | .callT d sp as _ => (match callF o.op with
    | some (f, xs, _) => Nat.beq f sp.f && spOk sp && argOk as xs && (match o.dst, d with
      | some x, some y => Nat.beq x y && Nat.blt x n
      | none, none => true
      | _, _ => false)
    | none => false)
  | .callV d sp s N as => (match callW o.op with
    | some (c, xs) => Nat.beq N n && opdOk (.t s) c && spOk sp && argOk as xs && xs.all (opBelow n) && (match o.dst, d with
      | some x, some y => Nat.beq x y && Nat.blt x n
      | none, none => true
      | _, _ => false)
    | none => false)
  | .mkfp d f s => (match mkfnO o.op with | some (g, [x]) => dstOk n o d && Nat.beq f g && opdOk (.t s) x | _ => false)
  | .callF d sp s N as => (match callW o.op with
    | some (c, xs) => Nat.beq N n && opdOk (.t s) c && spOk sp && argOk as xs && xs.all (opBelow n) && (match o.dst, d with
      | some x, some y => Nat.beq x y && Nat.blt x n
      | none, none => true
      | _, _ => false)
    | none => false)
  | .capN d b => (match callB o.op with | some (.cap, [x], [t]) => dstOk n o d && opdOk b x && tabD tab t descIsSl | _ => false)
  | .slcN d b bl bh es => (match o.op with | .slice t x lo hi none => dstOk n o d && opdOk b x && optOk bl lo && optOk bh hi && slcOk tab t es && tabD tab t descIsSl | _ => false)
  | .appZ d b c z eb => (match callB o.op with | some (.append, [x, y], [t, u]) => dstOk n o d && opdOk b x && opdOk c y && mkOk tab t eb z && tabD tab u descIsInt | _ => false)
  | .slcT d s b es => (match o.op with | .slice t x (some y) none none => dstOk n o d && opdOk (.t s) x && opdOk b y && slcOk tab t es && Nat.ble 1 es | _ => false)
  | .clr s z eb => (match callB o.op with | some (.clear, [x], [t]) => o.dst.isNone && opdOk (.t s) x && mkOk tab t eb z | _ => false)
  | .mkmap d _ _ => (match o.op with | .makeMap _ none => dstOk n o d | _ => false)
  | .alsM d s => (match mvOp o.op with | some x => dstOk n o d && opdOk (.t s) x | none => false)
  | .mset s b c k v => (match o.op with | .mapUpdate t x y z => o.dst.isNone && opdOk (.t s) x && opdOk b y && opdOk c z && mapOk tab hd t k | _ => false)
  | .mget d s b k z => (match o.op with | .lookup t x y false => dstOk n o d && opdOk (.t s) x && opdOk b y && mapOk tab hd t k && mzeroOk tab t z | _ => false)
  | .mkfn d f cs => (match mkfnO o.op with | some (g, xs) => dstOk n o d && Nat.beq f g && mkfnB cs xs | none => false)
  | .shp d (.nc s) _ => (match o.op with | .nilCheck x => dstOk n o d && opdOk (.t s) x && isT (.t s) | _ => false)
  | .shp d (.bor s) _ => (match mvOp o.op with | some x => dstOk n o d && opdOk (.t s) x | none => false)
  | .shp d (.ld s sz ag) _ => (match o.op with | .load t x => dstOk n o d && opdOk (.t s) x && tabSz tab t sz ag | _ => false)
  | .shp d (.fa s m off) _ => (match o.op with | .fieldAddr t x m' => Nat.beq m m' && dstOk n o d && opdOk (.t s) x && faOk tab t m off | _ => false)
  | _ => false
def XOp.calls : XOp → List FSpec
  | .call _ sp _ => [sp]
  | .callT _ sp _ _ => [sp]
  | .callV _ sp _ _ _ => [sp]
  | .callF _ sp _ _ _ => [sp]
  | _ => []
end
end Go.Proofs.Bw
namespace Go.Proofs.Bw
open Go

theorem withTag_self (x : Blk) : x.withTag x.tag = x := by cases x <;> rfl
theorem goes_self {h h' : Hp} {t : Tag} (H : ∀ b blk r, h b = some blk → blk.tag = t ++ r → h' b = some blk) : Goes h h' t t := by
  intro b blk r hb ht
  rw [← ht, withTag_self]
  exact H b blk r hb ht
theorem row_zoom {σ : Sg} {h : Hp} : ∀ {T : Ty} {x : T.den} {q : Tag} {cs : List Value} {t : Tag} {z : Nm} {e : Ty} {xs : (Ty.slX z e).den},
    getK T x q 0 some = some ⟨.slX z e, xs⟩ → hasIdx q = false → T.closed = true → Rel σ h T false x cs t →
    ∃ c, Rel σ h (.slX z e) false xs c (t ++ q) ∧
      ∀ (σ' : Sg) (h' : Hp) (ys : (Ty.slX z e).den) (w : SV), setK T x q 0 ⟨.slX z e, ys⟩ some = some w → σ.le σ' → (∀ b blk r, h b = some blk → blk.tag = t ++ r → r ≠ q → h' b = some blk) →
        Rel σ' h' (.slX z e) false ys c (t ++ q) → w.T = T ∧ Rel σ' h' w.T false w.x cs t := by
  intro T
  induction T with
  | pair a b iha ihb =>
    intro x q cs t z e xs hg hq hcl hr
    simp only [Ty.closed, Bool.and_eq_true] at hcl
    simp only [Rel] at hr
    obtain ⟨c, d, rfl, h1, h2⟩ := hr
    cases q with
    | nil => simp only [getK, Option.some.injEq] at hg; have h9 := congrArg SV.T hg; cases h9
    | cons k q =>
      match k, hg, hq with
      | 1, hg, hq =>
        simp only [getK] at hg
        have hq : hasIdx q = false := by simp only [hasIdx, Bool.or_eq_false_iff] at hq; exact hq.2
        obtain ⟨c0, e1, e2⟩ := iha hg hq hcl.1 h1
        refine ⟨c0, by simpa using e1, fun σ' h' ys w hs hσ hh hr' => ?_⟩
        simp only [setK] at hs
        rw [setK_nat] at hs
        cases hw : setK a x.1 q 0 ⟨.slX z e, ys⟩ some with
        | none => rw [hw] at hs; cases hs
        | some w' =>
          rw [hw] at hs
          simp only [Option.bind_some, Option.some.injEq] at hs
          subst hs
          obtain ⟨g1, g2⟩ := e2 σ' h' ys w' hw hσ (fun b blk r hb ht hne => hh b blk (1 :: r) hb (by rw [ht]; simp) (by simpa using hne)) (by simpa using hr')
          refine ⟨congrArg (Ty.pair · b) g1, ?_⟩
          simp only [Rel]
          exact ⟨c, d, rfl, g2, Rel.move hσ hcl.2 (goes_self fun b blk r hb ht => hh b blk (2 :: r) hb (by rw [ht]; simp) (by simp)) h2⟩
      | 2, hg, hq =>
        simp only [getK] at hg
        have hq : hasIdx q = false := by simp only [hasIdx, Bool.or_eq_false_iff] at hq; exact hq.2
        obtain ⟨c0, e1, e2⟩ := ihb hg hq hcl.2 h2
        refine ⟨c0, by simpa using e1, fun σ' h' ys w hs hσ hh hr' => ?_⟩
        simp only [setK] at hs
        rw [setK_nat] at hs
        cases hw : setK b x.2 q 0 ⟨.slX z e, ys⟩ some with
        | none => rw [hw] at hs; cases hs
        | some w' =>
          rw [hw] at hs
          simp only [Option.bind_some, Option.some.injEq] at hs
          subst hs
          obtain ⟨g1, g2⟩ := e2 σ' h' ys w' hw hσ (fun b blk r hb ht hne => hh b blk (2 :: r) hb (by rw [ht]; simp) (by simpa using hne)) (by simpa using hr')
          refine ⟨congrArg (Ty.pair a ·) g1, ?_⟩
          simp only [Rel]
          exact ⟨c, d, rfl, Rel.move hσ hcl.1 (goes_self fun b blk r hb ht => hh b blk (1 :: r) hb (by rw [ht]; simp) (by simp)) h1, g2⟩
      | 0, hg, hq => simp [getK] at hg
      | k + 3, hg, hq => simp [getK] at hg
  | box a ih =>
    intro x q cs t z e xs hg hq hcl hr
    obtain ⟨x, rfl⟩ : ∃ y : a.den, y = x := ⟨x, rfl⟩
    simp only [Ty.closed] at hcl
    simp only [Rel] at hr
    obtain ⟨b0, ch, rfl, hb0, h1⟩ := hr
    cases q with
    | nil => simp only [getK, Option.some.injEq] at hg; have h9 := congrArg SV.T hg; cases h9
    | cons k q =>
      match k, hg, hq with
      | 0, hg, hq =>
        have hg : getK a x q 0 some = some ⟨.slX z e, xs⟩ := hg
        have hq : hasIdx q = false := by simp only [hasIdx, Bool.or_eq_false_iff] at hq; exact hq.2
        obtain ⟨c0, e1, e2⟩ := ih hg hq hcl h1
        refine ⟨c0, by simpa using e1, fun σ' h' ys w hs hσ hh hr' => ?_⟩
        have hs : (setK a x q 0 ⟨.slX z e, ys⟩ fun w => some ⟨.box w.T, w.x⟩) = some w := hs
        rw [setK_nat] at hs
        cases hw : setK a x q 0 ⟨.slX z e, ys⟩ some with
        | none => rw [hw] at hs; cases hs
        | some w' =>
          rw [hw] at hs
          simp only [Option.bind_some, Option.some.injEq] at hs
          subst hs
          obtain ⟨g1, g2⟩ := e2 σ' h' ys w' hw hσ (fun b blk r hb ht hne => hh b blk (0 :: r) hb (by rw [ht]; simp) (by simpa using hne)) (by simpa using hr')
          refine ⟨congrArg Ty.box g1, ?_⟩
          simp only [Rel]
          exact ⟨b0, ch, rfl, hh b0 _ [] hb0 (by simp [Blk.tag]) (by simp), g2⟩
      | k + 1, hg, hq => cases hg
  | arr m a ih =>
    intro x q cs t z e xs hg hq hcl hr
    cases q with
    | nil => simp only [getK, Option.some.injEq] at hg; have h9 := congrArg SV.T hg; cases h9
    | cons k q =>
      match k, hg, hq with
      | 3, hg, hq => simp [hasIdx] at hq
      | 0, hg, hq => simp [getK] at hg
      | 1, hg, hq => simp [getK] at hg
      | 2, hg, hq => simp [getK] at hg
      | k + 4, hg, hq => simp [getK] at hg
  | slX z' a ih =>
    intro x q cs t z e xs hg hq hcl hr
    cases q with
    | nil =>
      simp only [getK, Option.some.injEq] at hg
      have h1 := congrArg SV.T hg
      injection h1 with h1 h2
      subst h1 h2
      have h3 := eq_of_heq (SV.mk.inj hg).2
      have h3 : x = xs := h3
      subst h3
      refine ⟨cs, by simpa using hr, fun σ' h' ys w hs hσ hh hr' => ?_⟩
      simp only [setK, Ty.size] at hs
      simp at hs
      subst hs
      exact ⟨rfl, by simpa using hr'⟩
    | cons k q => simp [getK] at hg
  | _ =>
    intro x q cs t z e xs hg hq hcl hr
    cases q with
    | nil => simp only [getK, Option.some.injEq] at hg; have h9 := congrArg SV.T hg; cases h9
    | cons k q => simp [getK] at hg
end Go.Proofs.Bw
namespace Go.Proofs.Bw
open Go

section
variable {P : Program} {R : Type} {σ : Sg} {h : Hp} {st : St} {a : Act} {w : World} {K : St → List Tag → Option R} {r : R} {o : Oper} {Q : Exit → Act → World → Prop} {tab : Tab}

theorem op_als {d s : Nat} {x : Operand} (S : SRel σ h st a.tmps w) (hop : o.op = .move x ∨ o.op = .assign x) (hd : dstOk a.tmps.size o d = true) (hx : opdOk (.t s) x = true)
    (hK : evOp st.get K (.als d s) = some r) : o.wp P a w (Post σ h w st K r a) Q := by
  have hev := opdT_eval (a := a) hx
  have hex : (execOp a.eval o).run P w = .ok (.value (a.eval x)) w := by
    unfold execOp
    rcases hop with h1 | h1 <;> rw [h1] <;> rfl
  simp only [evOp] at hK
  split at hK
  · rename_i z e xs hs
    obtain ⟨_, cc, hw, hr⟩ := S.vals s _ hs
    have hcl := S.typ s _ hs
    have hpe : e.pure = true := by simpa [Ty.okTop, Ty.closed] using hcl
    refine wp_put (v := ⟨.slA z [s] e, xs⟩) S hd hK hex rfl rfl rfl rfl ⟨cc, by rw [hev]; exact hw, ?_⟩ (by simpa [Ty.okTop] using hpe) (fun t ht => ?_)
    · simp only [Rel] at hr ⊢
      obtain ⟨ad, len, cap, e1, e2, e3, e4⟩ := hr
      refine ⟨ad, len, cap, e1, e2, e3, e4.imp (fun h => h) ?_⟩
      rintro ⟨b, ch, f1, f2, f3, f4⟩
      exact ⟨b, ch, f1, f2, f3, f4.imp fun _ _ k => Rel.pure σ.le_refl hpe k⟩
    · simp only [Ty.looks, Option.some.injEq] at ht
      exact ⟨s, [], ht.symm, _, hs, rfl, by simpa [Ty.okTop] using hcl⟩
  · simp at hK

theorem op_idxE {d es : Nat} {b c : Opd} {t : TypeId} {x y : Operand} (ht : TabOk P tab) (S : SRel σ h st a.tmps w) (hop : o.op = .indexAddr t x y) (hd : dstOk a.tmps.size o d = true) (hnc : ∀ u, b ≠ .c u) (hx : opdOk b x = true) (hy : opdOk c y = true)
    (hs : tabSl tab t es = true) (hK : evOp st.get K (.idxE d b c es) = some r) : o.wp P a w (Post σ h w st K r a) Q := by
  simp only [evOp] at hK
  split at hK
  · rename_i z u e xs k i hb hc
    obtain ⟨tg, ⟨cc, hw, hr⟩, hok, hlk⟩ := gpo_rel S hx hb
    obtain ⟨hyv, _⟩ := opd_int S hy hc
    obtain ⟨hcc, hK⟩ := bif_some hK
    simp only [Bool.and_eq_true] at hcc
    have hes := Nat.eq_of_beq_eq_true hcc.1
    unfold inK' at hK
    split at hK
    · rename_i hrange
      simp only [Rel] at hr
      obtain ⟨ad, len, cap, e1, e2, e3, e4⟩ := hr
      have hxv : a.eval x = .slice ad len cap := by
        have := slot_single rfl hw; rw [this] at e1; injection e1
      have hlt : i.toNat < len := by rw [e3]; omega
      have hlc := e2.1
      rcases e4 with e4 | ⟨bk, ch, g1, g2, g3, g4⟩
      · omega
      · subst g1
        refine wp_put (v := ⟨.eref u e 0 [], i⟩) S hd hK (exec_idx_sl ht hop hs hxv hyv ⟨hrange.1, by omega⟩) rfl rfl rfl rfl ⟨_, rfl, ?_⟩ rfl (hlk hnc)
        simp only [Rel]
        refine ⟨bk, ch, by rw [hes]; simp, g2, ?_⟩
        rw [g3, ← Nat.succ_mul]; exact Nat.mul_le_mul_right _ (by omega)
    · simp at hK
  · simp at hK

theorem getK_closed : ∀ {T : Ty} {x : T.den} {q : Tag} {u : SV}, getK T x q 0 some = some u → hasIdx q = false → T.closed = true → u.T.closed = true := by
  intro T
  induction T with
  | pair a b iha ihb =>
    intro x q u hg hq hcl
    cases q with
    | nil => simp only [getK, Option.some.injEq] at hg; subst hg; exact hcl
    | cons k q =>
      simp only [Ty.closed, Bool.and_eq_true] at hcl
      match k, hg, hq with
      | 1, hg, hq => exact iha (x := x.1) hg (by simp only [hasIdx, Bool.or_eq_false_iff] at hq; exact hq.2) hcl.1
      | 2, hg, hq => exact ihb (x := x.2) hg (by simp only [hasIdx, Bool.or_eq_false_iff] at hq; exact hq.2) hcl.2
      | 0, hg, hq => cases hg
      | k + 3, hg, hq => cases hg
  | box a ih =>
    intro x q u hg hq hcl
    cases q with
    | nil => simp only [getK, Option.some.injEq] at hg; subst hg; exact hcl
    | cons k q =>
      simp only [Ty.closed] at hcl
      match k, hg, hq with
      | 0, hg, hq => exact ih (x := x) hg (by simp only [hasIdx, Bool.or_eq_false_iff] at hq; exact hq.2) hcl
      | k + 1, hg, hq => cases hg
  | arr m a ih =>
    intro x q u hg hq hcl
    cases q with
    | nil => simp only [getK, Option.some.injEq] at hg; subst hg; exact hcl
    | cons k q =>
      match k, hg, hq with
      | 3, hg, hq => simp [hasIdx] at hq
      | 0, hg, hq => cases hg
      | 1, hg, hq => cases hg
      | 2, hg, hq => cases hg
      | k + 4, hg, hq => cases hg
  | _ =>
    intro x q u hg hq hcl
    cases q with
    | nil => simp only [getK, Option.some.injEq] at hg; subst hg; exact hcl
    | cons k q => cases hg
/-- what an element's place leads to -/
theorem eref_use (S : SRel σ h st a.tmps w) {s : Nat} {k : Nat} {q : Tag} {e : Ty} {off : Nat} {p : Tag} {i : Int} {r0 : SV} {z : Nm} {xs : (Ty.slX z e).den} (hv : st.get s = some ⟨.eref (k :: q) e off p, i⟩) (hr0 : st.get k = some r0) (hq : hasIdx q = false)
    (hg : getK r0.T r0.x q 0 some = some ⟨.slX z e, xs⟩) {y : e.den} (hy : lnth (α := e.den) xs i = some y) :
    ∃ (bk : Nat) (ch cs : List Value), a.tmps.getD s undef = .pointer (some ⟨bk, i.toNat * e.size + off, none⟩) ∧ h bk = some (.row ch (k :: q)) ∧ wr r0.T.agg (a.tmps.getD k undef) cs ∧ r0.T.closed = true ∧ r0.T.pure = false ∧ e.pure = true ∧
      (∃ pre c post, ch = pre ++ c ++ post ∧ pre.length = i.toNat * e.size ∧ Rel σ h e false y c (k :: q ++ [3])) ∧
      ∀ (pre c post c' : List Value) (y' : e.den) (wv : SV), ch = pre ++ c ++ post → pre.length = i.toNat * e.size → c.length = e.size → Rel σ h e false y' c' (k :: q ++ [3]) → setK r0.T r0.x q 0 ⟨.slX z e, lset (α := e.den) xs i y'⟩ some = some wv →
        wv.T = r0.T ∧ ∀ h', (∀ b blk r, h b = some blk → blk.tag = k :: r → r ≠ q → h' b = some blk) → h' bk = some (.row (pre ++ c' ++ post) (k :: q)) → Rel σ h' wv.T false wv.x cs [k] := by
  obtain ⟨_, cc, hw, hr⟩ := S.vals s _ hv
  simp only [Rel] at hr
  obtain ⟨bk, ch, e1, e2, e3⟩ := hr
  have hval : a.tmps.getD s undef = .pointer (some ⟨bk, i.toNat * e.size + off, none⟩) := by
    have := slot_single rfl hw; rw [this] at e1; injection e1
  obtain ⟨v1, hv1, hpu, hcl⟩ := owns_of_block S e2 (q := q) rfl
  rw [hr0] at hv1
  injection hv1 with hv1
  subst hv1
  obtain ⟨_, cs, hw0, hrel0⟩ := S.vals k r0 hr0
  obtain ⟨c0, g1, g2⟩ := row_zoom hg hq hcl hrel0
  have hsl : (Ty.slX z e).closed = true := getK_closed hg hq hcl
  have hpe : e.pure = true := by simpa [Ty.closed] using hsl
  have g1' := g1
  simp only [Rel] at g1
  obtain ⟨ad, len, cap, f1, f2, f3, f4⟩ := g1
  have hlt : i.toNat < List.length (α := e.den) xs := (List.getElem?_eq_some_iff.1 (show (show List e.den from xs)[i.toNat]? = some y from hy)).1
  have hlc := f2.1
  rcases f4 with f4 | ⟨b2, ch2, m1, m2, m3, m4⟩
  · exfalso; omega
  have hb2 : b2 = bk := S.inv.inj b2 bk _ _ m2 e2 (by simp [Blk.tag])
  subst hb2
  rw [e2] at m2
  injection m2 with m2
  injection m2 with m2 _
  subst m2
  have hle : i.toNat * e.size + e.size ≤ len * e.size := by rw [← Nat.succ_mul]; exact Nat.mul_le_mul_right _ (by omega)
  have hlen : len * e.size ≤ ch.length := by rw [m3]; exact Nat.mul_le_mul_right _ hlc
  refine ⟨b2, ch, cs, hval, e2, hw0, hcl, hpu, hpe, ?_, ?_⟩
  · obtain ⟨pre, c, post, n1, n2, n3⟩ := EList.get (fun _ _ hh => Rel.length hh) m4 hy
    refine ⟨pre, c, post ++ ch.drop (len * e.size), ?_, n2, by simpa using n3⟩
    rw [← List.append_assoc, ← n1, List.take_append_drop]
  · intro pre c post c' y' wv hch hpre hc hy' hset
    have hlc' : c'.length = e.size := hy'.length
    have gw := g2 σ h
    have hnew : ∀ h', h' b2 = some (.row (pre ++ c' ++ post) (k :: q)) → Rel σ h' (.slX z e) false (lset (α := e.den) xs i y') c0 ([k] ++ q) := by
      intro h' hb'
      simp only [Rel]
      refine ⟨ad, len, cap, f1, f2, by rw [f3]; exact (lset_length (α := e.den) xs i y').symm, .inr ⟨b2, pre ++ c' ++ post, m1, hb', ?_, ?_⟩⟩
      · rw [← m3, hch]; simp [hc, hlc']
      · have hsp : ch.take (len * e.size) = pre ++ c ++ (post.take (len * e.size - pre.length - c.length)) := by
          rw [hch, List.append_assoc, List.take_append, List.take_of_length_le (by omega), List.take_append, List.take_of_length_le (l := c) (by omega), List.append_assoc]
        have hsp2 : (pre ++ c' ++ post).take (len * e.size) = pre ++ c' ++ (post.take (len * e.size - pre.length - c.length)) := by
          rw [List.append_assoc, List.take_append, List.take_of_length_le (l := pre) (by omega), List.take_append, List.take_of_length_le (l := c') (by omega), List.append_assoc, hc, hlc']
        rw [hsp2]
        have m4' := m4
        rw [hsp] at m4'
        exact EList.set (n := e.size) (R := fun y c => Rel σ h' e false y c ([k] ++ q ++ [3])) (fun _ _ hh => Rel.length hh) (m4'.imp fun _ _ kk => Rel.pure σ.le_refl hpe kk) hlt rfl hpre hc (Rel.pure σ.le_refl hpe hy')
    obtain ⟨t1, _⟩ : wv.T = r0.T ∧ True := by
      refine ⟨?_, trivial⟩
      exact (g2 σ (fun b => if b = b2 then some (.row (pre ++ c' ++ post) (k :: q)) else h b) _ wv hset σ.le_refl (fun b blk r hb ht hne => by
        have hbn : b ≠ b2 := by
          rintro rfl
          rw [e2] at hb; injection hb with hb; subst hb
          simp only [Blk.tag, List.singleton_append, List.cons.injEq, true_and] at ht
          exact hne ht.symm
        simp [hbn, hb]) (hnew _ (by simp))).1
    exact ⟨t1, fun h' hh hb' => (g2 σ h' _ wv hset σ.le_refl (fun b blk r hb ht hne => hh b blk r hb (by simpa using ht) hne) (hnew h' hb')).2⟩

theorem op_ldE {d s sz : Nat} {ag : Bool} {t : TypeId} {x : Operand} (ht : TabOk P tab) (S : SRel σ h st a.tmps w) (hop : o.op = .load t x) (hd : dstOk a.tmps.size o d = true) (hx : opdOk (.t s) x = true) (hsz : tabSz tab t sz ag = true)
    (hK : evOp st.get K (.ldE d s sz ag) = some r) : o.wp P a w (Post σ h w st K r a) Q := by
  obtain ⟨dd, j, hu, hi, hj, hdg⟩ := tabSz_ok ht hsz
  have hev := opdT_eval (a := a) hx
  simp only [evOp] at hK
  split at hK
  · rename_i k q e off p i hv
    split at hK
    · rename_i r0 oo so no hr0 ho
      obtain ⟨hcc, hK⟩ := bif_none hK
      simp only [Bool.or_eq_false_iff, Bool.not_eq_false'] at hcc
      obtain ⟨⟨hq, hp⟩, hoo⟩ := hcc
      have hoo := Nat.eq_of_beq_eq_true hoo
      subst hoo
      rw [getK_nat] at hK
      cases hg : getK r0.T r0.x q 0 some with
      | none => rw [hg] at hK; cases hK
      | some u =>
        rw [hg] at hK
        simp only [Option.bind_some] at hK
        split at hK
        · rename_i z e' xs
          split at hK
          · rename_i hee
            have := Ty.eq_of_beq hee
            subst this
            obtain ⟨h0, y, hy, hk⟩ := idxK_some hK
            have hy : lnth (α := e'.den) xs i = some y := hy
            obtain ⟨bk, ch, cs, m1, m2, _, _, _, hpe, ⟨pre, c, post, n1, n2, n3⟩, _⟩ := eref_use S hv hr0 hq hg hy
            obtain ⟨hoz1, hoz2⟩ := offAt_noIdx hp ho
            subst hoz1 hoz2
            obtain ⟨v, pre', c', post', l1, l2, l3, l4, l5⟩ := getIn hk n3 ho
            obtain ⟨hc, hk2⟩ := bif_some l1
            simp only [Bool.and_eq_true] at hc
            have hs1 := Nat.eq_of_beq_eq_true hc.1.2
            have hs2 := bbeq_eq hc.2
            have hdg' : descAgg dd = v.T.agg := by rw [hdg, hs2]
            have hex := exec_load (P := P) (c := c') hop (hev.trans m1) hu hi (fun k2 v2 hk2 => by
              rw [cell_at S.inv m2 rfl, n1, l2, ← n2, Nat.add_assoc, List.append_assoc, List.getElem?_append_right (by omega), Nat.add_sub_cancel_left, List.append_assoc, List.append_assoc,
                List.getElem?_append_right (by omega), List.getElem?_append_left (by have := (List.getElem?_eq_some_iff.1 hk2).1; omega)]
              rw [show oo + k2 - pre'.length = k2 by omega]; exact hk2) (by rw [l4.length, hj, hs1]) (one_of l4 hdg')
            rw [hdg'] at hex
            exact wp_put_pure (v := v) S hd hk2 hex rfl rfl rfl rfl hc.1.1 (VRel.of_rel l4)
          · simp at hK
        · simp at hK
    · simp at hK
  · simp at hK

theorem op_stE {s sz : Nat} {b : Opd} {t : TypeId} {x y : Operand} (ht : TabOk P tab) (S : SRel σ h st a.tmps w) (hop : o.op = .store t x y) (hd : o.dst = none) (hx : opdOk (.t s) x = true) (hy : opdOk b y = true)
    (hsz : (match tab.get t with | some i => Nat.beq i.size sz | none => false) = true)
    (hK : evOp st.get K (.stE s b sz) = some r) : o.wp P a w (Post σ h w st K r a) Q := by
  obtain ⟨j, hi, hj⟩ : ∃ j, P.info? t = some j ∧ j.size = sz := by
    split at hsz
    · rename_i i hi
      obtain ⟨_, j, h1, h2, _⟩ := ht t i hi
      exact ⟨j, h1, by rw [h2, Nat.eq_of_beq_eq_true hsz]⟩
    · simp at hsz
  have hev := opdT_eval (a := a) hx
  simp only [evOp] at hK
  split at hK
  · rename_i v k q e off p i hov hv
    split at hK
    · rename_i r0 oo so no hr0 ho
      obtain ⟨hcc, hK⟩ := bif_none hK
      simp only [Bool.or_eq_false_iff, Bool.not_eq_false'] at hcc
      obtain ⟨⟨⟨⟨hq, hp⟩, hoo⟩, hvp⟩, hvs⟩ := hcc
      have hoo := Nat.eq_of_beq_eq_true hoo
      have hvs := Nat.eq_of_beq_eq_true hvs
      subst hoo
      rw [getK_nat] at hK
      cases hg : getK r0.T r0.x q 0 some with
      | none => rw [hg] at hK; cases hK
      | some u =>
        rw [hg] at hK
        simp only [Option.bind_some] at hK
        split at hK
        · rename_i z e' xs
          split at hK
          · rename_i hee
            have := Ty.eq_of_beq hee
            subst this
            obtain ⟨h0, y0, hy0, hk⟩ := idxK_some hK
            have hy0 : lnth (α := e'.den) xs i = some y0 := hy0
            obtain ⟨bk, ch, cs, m1, m2, hwr, hcl, hpu, hpe, ⟨pre, c, post, n1, n2, n3⟩, hset⟩ := eref_use S hv hr0 hq hg hy0
            obtain ⟨hoz1, hoz2⟩ := offAt_noIdx hp ho
            subst hoz1 hoz2
            obtain ⟨y1, pre', c', post', l1, l2, l3, l4, l5, l6, l7⟩ := setIn hk (Ty.closed_of_pure hpe) n3 ho (fun hh => by rw [hp] at hh; cases hh)
            split at l1
            · rename_i hye
              have hye2 := Ty.eq_of_beq hye
              rw [setK_nat] at l1
              cases hs : setK r0.T r0.x q 0 ⟨.slX z e', lset (α := e'.den) (castL hee xs) i (Ty.cast hye y1.x)⟩ some with
              | none => rw [hs] at l1; cases l1
              | some wv =>
                rw [hs] at l1
                simp only [Option.bind_some] at l1
                obtain ⟨tg, cv, hwv, hrv⟩ := opd_rel S hy hov
                have hcells := wr_cells (by revert hvp; cases v.T <;> simp [Ty.pure, Ty.solid]) hwv hrv
                have hclen : c.length = e'.size := n3.length
                have hcv : cv.length = c'.length := by rw [hrv.length, l4]
                have hnewc : Rel σ h e' false (Ty.cast hye y1.x) (pre' ++ cv ++ post') (k :: q ++ [3]) := by
                  have := l7 σ h cv σ.le_refl (fun b blk qq hb _ _ => hb) (Rel.pure σ.le_refl hvp hrv)
                  exact rel_cast hye this
                obtain ⟨w1, w2⟩ := hset pre c post (pre' ++ cv ++ post') (Ty.cast hye y1.x) wv n1 n2 hclen hnewc hs
                obtain ⟨et, lo, hi', k1, k2⟩ := S.inv.cells bk _ ch m2 rfl
                have hch2 : ch = (pre ++ pre') ++ c' ++ (post' ++ post) := by rw [n1, l2]; simp
                have hrun := exec_store (P := P) (w := w) hop (hev.trans m1) (v := a.eval y) rfl hi hcells (by rw [hrv.length, hj, hvs]) (pre := pre ++ pre') (mid := c') (post := post' ++ post) (by rw [← hch2]; exact k1) (by rw [← hch2]; exact k2) (by rw [List.length_append, n2, l3]; omega) (by rw [hcv]) (Rel.one (hard_of_pure hvp) hrv)
                have hnew : (pre ++ pre') ++ cv ++ (post' ++ post) = pre ++ (pre' ++ cv ++ post') ++ post := by simp
                have hlen : ((pre ++ pre') ++ cv ++ (post' ++ post)).length = ch.length := by rw [hch2]; simp [hcv]
                rw [hnew] at hrun hlen
                unfold Oper.wp
                rw [hrun, Oper.upon_skip, hd]
                generalize hch' : pre ++ (pre' ++ cv ++ post') ++ post = ch' at hrun hlen w2
                have I' := S.inv.stb (y := .row ch' (k :: q)) m2 rfl rfl rfl hlen
                have hstb : ∀ b, b ≠ bk → Bw.stb bk (.row ch' (k :: q)) h b = h b := fun b hne => by unfold Bw.stb; rw [if_neg hne]
                have hstbk : Bw.stb bk (.row ch' (k :: q)) h bk = some (.row ch' (k :: q)) := by unfold Bw.stb; rw [if_pos rfl]
                have hown : Owns st k := ⟨r0, hr0, hpu, hcl⟩
                have gs : St.get [(k, some wv)] k = some wv := by rw [get_cons, if_pos rfl]
                have hwcl : wv.T.closed = true := by rw [w1]; exact hcl
                have hou : OwnsU [(k, some wv)] k := ⟨_, gs, by rw [w1]; exact hpu, hwcl⟩
                have hhs : ∀ k', hasS [(k, some wv)] k' = true → k' = k := fun k' hk => by simp only [hasS, Bool.or_false] at hk; exact (beq_iff.1 hk).symm
                have hbkt : ∀ b blk, h b = some blk → blk.tag = k :: q → b = bk := fun b blk hb htg => S.inv.inj b bk blk _ hb m2 (by rw [htg]; rfl)
                refine ⟨σ, Bw.stb bk (.row ch' (k :: q)) h, _, _, l1, ⟨by rw [setB_ext.2.2.2]; exact Nat.le_refl _, σ.le_refl, rfl, rfl, rfl, fun b hb hn => ?_⟩, ?_, rfl, rfl⟩
                · have hne : b ≠ bk := by rintro rfl; rw [m2] at hn; cases hn
                  exact ⟨setB_other hne, by rw [hstb b hne]; exact hn, fun _ => rfl⟩
                · refine SRel.upd2 S _ _ σ.le_refl I' ?_ ?_ ?_ ⟨rfl, fun _ _ => rfl⟩ ?_
                  · intro b blk k' rr hb htg hk'
                    have hne : b ≠ bk := by
                      rintro rfl
                      rw [m2] at hb
                      injection hb with hb
                      subst hb
                      simp only [Blk.tag, List.cons.injEq] at htg
                      rw [← htg.1] at hk'
                      simp [hasS] at hk'
                    rw [hstb b hne]; exact hb
                  · intro b blk hb
                    by_cases hne : b = bk
                    · subst hne
                      rw [hstbk] at hb
                      injection hb with hb
                      subst hb
                      exact ⟨k, q, rfl, fun _ => hou, fun hk => by simp [hasS] at hk⟩
                    · rw [hstb b hne] at hb
                      obtain ⟨k', rr, e1, _⟩ := S.own b blk hb
                      exact ⟨k', rr, e1, fun hk => by rw [hhs k' hk]; exact hou, fun _ => hb⟩
                  · intro k' x' hk' hx'
                    have := hhs k' hk'
                    subst this
                    rw [gs] at hx'
                    injection hx' with hx'
                    subst hx'
                    refine ⟨(S.vals _ _ hr0).1, ⟨cs, by rw [w1]; exact hwr, w2 _ (fun b blk rr hb htg hne => ?_) hstbk⟩, .inl hwcl⟩
                    have hne2 : b ≠ bk := by
                      rintro rfl
                      rw [m2] at hb
                      injection hb with hb
                      subst hb
                      simp only [Blk.tag, List.cons.injEq, true_and] at htg
                      exact hne htg.symm
                    rw [hstb b hne2]; exact hb
                  · intro s' v' k' rr hs' hns hl hk' hok hdead
                    have := hhs k' hk'
                    subst this
                    have hnp := alive hl hdead (c := k' :: q) (by simp)
                    have hne : rr ≠ q := by
                      rintro rfl
                      rw [isPre_iff.2 ⟨[], by simp⟩] at hnp; cases hnp
                    refine ⟨⟨fun b cs2 hb => ⟨cs2, ?_⟩, fun b cs2 hb => ?_, fun b cs2 hb => ?_, fun hn b blk hb => ?_⟩, hou⟩
                    · rw [hstb b (by rintro rfl; rw [m2] at hb; cases hb)]; exact hb
                    · rw [hstb b (by rintro rfl; rw [m2] at hb; injection hb with hb; injection hb with _ hb; injection hb with _ hb; exact hne hb.symm)]; exact hb
                    · rw [hstb b (by rintro rfl; rw [m2] at hb; cases hb)]; exact hb
                    · by_cases hne2 : b = bk
                      · subst hne2
                        rw [hstbk] at hb
                        injection hb with hb
                        subst hb
                        simp only [Blk.tag, ne_eq, List.cons.injEq, true_and]
                        exact fun h => hne h.symm
                      · rw [hstb b hne2] at hb
                        exact hn b blk hb
            · simp at l1
          · simp at hK
        · simp at hK
    · simp at hK
  · simp at hK

theorem op_ldA {d s sz : Nat} {t : TypeId} {x : Operand} (ht : TabOk P tab) (S : SRel σ h st a.tmps w) (hop : o.op = .load t x) (hd : dstOk a.tmps.size o d = true) (hx : opdOk (.t s) x = true) (hsz : tabSz tab t sz false = true)
    (hK : evOp st.get K (.ldA d s sz) = some r) : o.wp P a w (Post σ h w st K r a) Q := by
  obtain ⟨dd, j, hu, hi, hj, hdg⟩ := tabSz_ok ht hsz
  have hev := opdT_eval (a := a) hx
  simp only [evOp] at hK
  obtain ⟨s0, q, off, str, n, p, i, r0, C, hv, hK, hr0, hq, hC, ho, hin, b, ch, hval, hb⟩ := ptr_use hK (val := a.tmps.getD s undef) (fun u hu => ⟨_, (gp_rel S hu).1⟩)
  obtain ⟨hcc, hK⟩ := bif_none hK
  simp only [Bool.or_eq_false_iff, Bool.not_eq_false'] at hcc
  obtain ⟨hpi, hs1⟩ := hcc
  have hs1 := Nat.eq_of_beq_eq_true hs1
  obtain ⟨hrc, hrp, cs, y, f, hwr, hCc, hCr, hget, hset, hfc, hfr⟩ := root_use S hr0 hq hC hb
  rw [hget] at hK
  obtain ⟨hoz1, hoz2⟩ := offAt_noIdx hpi ho
  subst hoz1 hoz2
  obtain ⟨v', pre, c, post, k1, k2, k3, k4, k5⟩ := getIn hK hCr ho
  have hcl := k5 hCc
  split at k1
  · rename_i z e xs
    have hlen := k4.length
    have hex := exec_load (P := P) (c := c) hop (hev.trans hval) hu hi (fun k v hk => by
      rw [cell_at S.inv hb rfl, k2, List.append_assoc, List.getElem?_append_right (by omega), List.getElem?_append_left (by
        have := (List.getElem?_eq_some_iff.1 hk).1; omega)]
      rw [show off + 0 * i.toNat + k - pre.length = k by omega]; exact hk) (by rw [hlen, hj, hs1]; rfl) (one_of k4 hdg)
    rw [hdg] at hex
    have hpe : e.pure = true := by simpa [Ty.closed] using hcl
    simp only [Rel] at k4
    obtain ⟨ad, len, cap, e1, e2, e3, e4⟩ := k4
    subst e1
    refine wp_put (v := ⟨.slA z (s0 :: (q ++ [0]) ++ p) e, xs⟩) S hd k1 hex rfl rfl rfl rfl ⟨_, rfl, ?_⟩ (by simpa [Ty.okTop] using hpe) (fun t ht => ?_)
    · simp only [Rel]
      refine ⟨ad, len, cap, rfl, e2, e3, e4.imp (fun h => h) ?_⟩
      rintro ⟨b, ch, f1, f2, f3, f4⟩
      exact ⟨b, ch, f1, by simpa using f2, f3, f4.imp fun _ _ k => Rel.pure σ.le_refl hpe k⟩
    · simp only [Ty.looks, Option.some.injEq] at ht
      exact ⟨s0, _, ht.symm, r0, hr0, hrp, hrc⟩
  · simp at k1
end
end Go.Proofs.Bw
namespace Go.Proofs.Bw
open Go

section
variable {P : Program} {R : Type} {σ : Sg} {h : Hp} {st : St} {a : Act} {w : World} {K : St → List Tag → Option R} {r : R} {o : Oper} {Q : Exit → Act → World → Prop} {tab : Tab}

theorem op_mnx {d : Nat} {mx : Bool} {b c : Opd} {x y : Operand} {t u : TypeId} {bi : Builtin} (S : SRel σ h st a.tmps w) (hop : o.op = .call { callee := .builtin bi, args := ⟨[x, y]⟩, argTypes := ⟨[t, u]⟩ }) (hbi : bi = (bif mx then .max else .min))
    (hd : dstOk a.tmps.size o d = true) (hx : opdOk b x = true) (hy : opdOk c y = true) (hK : evOp st.get K (.mnx d mx b c) = some r) : o.wp P a w (Post σ h w st K r a) Q := by
  simp only [evOp] at hK
  split at hK
  · rename_i k n j m hb hc
    obtain ⟨hkj, hK2⟩ := bif_some hK
    have := kn_inj (Nat.eq_of_beq_eq_true hkj)
    subst this
    obtain ⟨e1, r1⟩ := opd_int S hx hb
    obtain ⟨e2, r2⟩ := opd_int S hy hc
    have hin : inK k (bif mx then imax n m else imin n m) := by
      cases mx
      · simp only [cond_false, imin]; split <;> assumption
      · simp only [cond_true, imax]; split <;> assumption
    refine wp_put_pure (v := ⟨.int k, bif mx then imax n m else imin n m⟩) S hd hK2 (val := .int k (bif mx then imax n m else imin n m)) ?_ rfl rfl rfl rfl rfl (vrel_int hin [])
    subst hbi
    unfold execOp
    rw [hop]
    cases mx
    · simp [resolve, invoke, builtin, e1, e2, Builtin.min_, Builtin.min2, imin]
    · simp [resolve, invoke, builtin, e1, e2, Builtin.max_, Builtin.max2, imax]
  · simp at hK

theorem op_slcX {d s es : Nat} {b : Opd} {t : TypeId} {x y : Operand} (ht : TabOk P tab) (S : SRel σ h st a.tmps w) (hop : o.op = .slice t x none (some y) none) (hd : dstOk a.tmps.size o d = true) (hx : opdOk (.t s) x = true) (hy : opdOk b y = true) (hs : slcOk tab t es = true)
    (hK : evOp st.get K (.slcX d s b es) = some r) : o.wp P a w (Post σ h w st K r a) Q := by
  have hev := opdT_eval (a := a) hx
  simp only [evOp] at hK
  split at hK
  · rename_i z e xs k n hv hb
    obtain ⟨xs, rfl⟩ : ∃ l : List e.den, l = xs := ⟨xs, rfl⟩
    obtain ⟨hcc, hK⟩ := bif_some hK
    simp only [Bool.and_eq_true, Bool.not_eq_true'] at hcc
    obtain ⟨⟨⟨hf, hds⟩, hse⟩, h1es⟩ := hcc
    have hse := Nat.eq_of_beq_eq_true hse
    have hds : d ≠ s := fun e => by rw [e] at hds; simp at hds
    obtain ⟨h0, hle, hK⟩ : 0 ≤ n ∧ n ≤ (List.length (α := e.den) xs : Int) ∧ K [(d, some ⟨.slX (zipNm z) e, List.take (α := e.den) n.toNat xs⟩), (s, none)] [[s]] = some r := by
      obtain ⟨k0, k1, k2, k3⟩ := sliceK_some hK; exact ⟨k1, k2, k3⟩
    obtain ⟨hyv, _⟩ := opd_int S hy hb
    obtain ⟨_, cc, hw, hr⟩ := S.vals s _ hv
    have hcl : e.pure = true := by simpa [Ty.okTop, Ty.closed] using S.typ s _ hv
    simp only [Rel] at hr
    obtain ⟨ad, len, cap, e1, e2, e3, e4⟩ := hr
    have hxv : a.tmps.getD s undef = .slice ad len cap := by have := slot_single rfl hw; rw [this] at e1; injection e1
    obtain ⟨et, j, hun, hinf, hj⟩ : ∃ et j, P.underlying t = some (.slice et) ∧ P.info? et = some j ∧ j.size = es := by
      rcases slcOk_ok ht hs with ⟨_, h2⟩ | ⟨e, j, h2, h3, h4, _⟩
      · exfalso; have := Nat.le_of_ble_eq_true h1es; omega
      · exact ⟨e, j, h2, h3, h4⟩
    have hlc := e2.1
    have hrun : (Instr.slice t (a.eval x) none (some (a.eval y)) none).run P w = .ok (.slice (if cap = 0 then ad else ad.map (·.add (0 * j.size))) (n.toNat - 0) (cap - 0)) w := by
      rw [hev, hxv]
      exact slice_run hun hinf (.inl ⟨rfl, rfl⟩) (.inr ⟨k, by rw [hyv, Int.toNat_of_nonneg h0], by omega⟩) (.inl ⟨rfl, rfl⟩) (fun hh => (hh rfl).elim)
    have had : (if cap = 0 then ad else ad.map (·.add (0 * j.size))) = ad := by
      split
      · rfl
      · cases ad with
        | none => rfl
        | some ad => rcases ad with ⟨_, _, _⟩; simp [Addr.add]
    obtain ⟨g1, g2⟩ := dstOk_eq hd
    have hex := exec_slice (a := a) (o := o) hop (.inr ⟨et, hun⟩) hrun
    unfold Oper.wp
    rw [hex, Oper.upon_value, g1]
    have hnd : ∀ b x, h b = some x → isPre [d] x.tag = true → isPre [s] x.tag = true := fun b x hb hp => by
      obtain ⟨q, hq⟩ := isPre_iff.1 hp
      obtain ⟨k', q', e, ho⟩ := S.own b x hb
      rw [hq] at e
      injection e with e _
      subst e
      exact (not_owns_of_fresh hf ho).elim
    refine ⟨σ, rt [s] [d] h, _, _, hK, ⟨Nat.le_refl _, σ.le_refl, rfl, rfl, rfl, fun _ _ hn => ⟨rfl, rt_none hn, fun _ => rfl⟩⟩, ?_, rfl, by simp [Act.put]⟩
    refine SRel.swap S hf hds g2 σ.le_refl (S.inv.rt hnd) (fun b blk k q hb ht hk => rt_kept hb (by rw [ht]; exact isPre_ne (Ne.symm hk))) (fun b blk hb => ?_) ⟨[_], rfl, ?_⟩ (by simpa [Ty.closed] using hcl)
    · obtain ⟨x0, k1, k2⟩ := rt_some hb
      rcases k2 with ⟨q, k3, rfl⟩ | ⟨k3, rfl⟩
      · exact .inr ⟨⟨q, by rw [Blk.tag_withTag]; rfl⟩, rfl⟩
      · refine .inl ⟨k1, fun q hq => ?_⟩
        rw [hq, isPre_single] at k3; cases k3
    · rw [had]
      simp only [Nat.sub_zero, Rel]
      have hok : SlOk (zipNm z) (if cap = 0 then ad else ad.map fun q => q) (n.toNat - 0) (cap - 0) := zipNm_ok e2 (by omega) (by omega) (Nat.le_refl _)
      have hif : (if cap = 0 then ad else ad.map fun q => q) = ad := by split <;> simp
      rw [hif] at hok
      refine ⟨ad, n.toNat, cap, rfl, by simpa using hok, ?_, ?_⟩
      · have : (List.take (α := e.den) n.toNat xs).length = n.toNat := by
          rw [List.length_take]; omega
        exact this.symm
      · rcases e4 with e4 | ⟨bk, ch, f1, f2, f3, f4⟩
        · exact .inl e4
        · refine .inr ⟨bk, ch, f1, ?_, f3, ?_⟩
          · have := rt_moved (t := [s]) (t' := [d]) f2 (r := []) rfl
            simpa [Blk.withTag] using this
          · have hlen : len * e.size = n.toNat * e.size + (len - n.toNat) * e.size := by rw [← Nat.add_mul]; congr 1; omega
            have h5 : EList (fun y c => Rel σ h e false y c ([s] ++ [3])) (List.take (α := e.den) n.toNat xs) ((ch.take (len * e.size)).take (n.toNat * e.size)) := by
              have := EList.cut (n := e.size) (fun _ _ hh => Rel.length hh) (0 : Int) (n.toNat : Int) f4
              simpa only [Bw.cut, Int.toNat_natCast, Int.toNat_zero, Nat.zero_mul, List.drop_zero] using this
            rw [List.take_take, show min (n.toNat * e.size) (len * e.size) = n.toNat * e.size by omega] at h5
            exact EList.pureL σ.le_refl hcl h5
  · simp at hK

theorem op_frz {d s : Nat} {x : Operand} (S : SRel σ h st a.tmps w) (hop : o.op = .move x ∨ o.op = .assign x) (hd : dstOk a.tmps.size o d = true) (hx : opdOk (.t s) x = true)
    (hK : evOp st.get K (.frz d s) = some r) : o.wp P a w (Post σ h w st K r a) Q := by
  have hev := opdT_eval (a := a) hx
  have hex : (execOp a.eval o).run P w = .ok (.value (a.tmps.getD s undef)) w := by
    unfold execOp
    rcases hop with h1 | h1 <;> rw [h1, ← hev] <;> rfl
  simp only [evOp] at hK
  split at hK
  · rename_i z e xs hv
    obtain ⟨hcc, hK⟩ := bif_some hK
    simp only [Bool.and_eq_true, Bool.not_eq_true'] at hcc
    obtain ⟨hf, hds⟩ := hcc
    have hds : d ≠ s := fun e => by rw [e] at hds; simp at hds
    have hcl : e.pure = true := by simpa [Ty.okTop, Ty.closed] using S.typ s _ hv
    obtain ⟨_, cc, hw, hr⟩ := S.vals s _ hv
    obtain ⟨h1, h2⟩ := dstOk_eq hd
    obtain ⟨ρ, hρ⟩ : ∃ ρ : Tag → Option Tag, ∀ t, ρ t = (match t with | k :: q => bif Nat.beq k s then none else some (k :: q) | [] => some []) := ⟨_, fun _ => rfl⟩
    have hρs : ∀ t u, ρ t = some u → u = t ∧ ∀ q, t ≠ s :: q := fun t u ht => by
      rw [hρ] at ht
      cases t with
      | nil => injection ht with ht; exact ⟨ht.symm, fun q hh => by cases hh⟩
      | cons k q =>
        cases hk : Nat.beq k s with
        | true => simp only [hk, cond_true] at ht; cases ht
        | false =>
          simp only [hk, cond_false] at ht
          injection ht with ht
          refine ⟨ht.symm, fun q' hh => ?_⟩
          injection hh with hh _
          subst hh
          simp at hk
    have hn : ∀ b blk q, h b = some blk → blk.tag = s :: q → hren ρ h b = none := fun b blk q hb ht => by
      unfold hren
      simp [hb, ht, hρ]
    have hI := lendSg_inv (on := true) (ρ := ρ) S.inv (fun u v c hu hv' => by rw [← (hρs _ _ hu).1, (hρs _ _ hv').1])
    have hσ := lendSg_le (on := true) (h0 := hren ρ h) S.inv
    have hnone : ∀ b, h b = none → hren ρ h b = none := fun b hb => by unfold hren; simp [hb]
    have hnod := not_owns_of_fresh hf
    have hp : (Ty.slB z false e).pure = true := hcl
    have hrel := fun q' : Tag => frz_rel (T := .slX z e) (x := xs) (q := []) (t' := q') S.inv (k := s) hn hcl hr
    have hhas : ∀ k, hasS [(d, some (⟨.slB z false e, xs⟩ : SV)), (s, some ⟨.slB z false e, xs⟩)] k = true ↔ k = d ∨ k = s := fun k => by
      simp only [hasS, Bool.or_eq_true, Bool.or_false]
      constructor
      · rintro (h | h)
        · exact .inl (Nat.eq_of_beq_eq_true h).symm
        · exact .inr (Nat.eq_of_beq_eq_true h).symm
      · rintro (h | h)
        · exact .inl (by rw [h]; simp)
        · exact .inr (by rw [h]; simp)
    have hnot : ∀ k, hasS [(d, some (⟨.slB z false e, xs⟩ : SV)), (s, some ⟨.slB z false e, xs⟩)] k = false → k ≠ d ∧ k ≠ s := fun k hk =>
      ⟨fun e => by have := (hhas k).2 (.inl e); simp_all, fun e => by have := (hhas k).2 (.inr e); simp_all⟩
    unfold Oper.wp
    rw [hex, Oper.upon_value, h1]
    refine ⟨lendSg true σ h (hren ρ h), hren ρ h, _, _, hK, ⟨Nat.le_refl _, hσ, rfl, rfl, rfl, fun b _ hb => ⟨rfl, hnone b hb, fun j => lendSg_old hb j⟩⟩, ?_, rfl, by simp [Act.put]⟩
    refine SRel.upd S _ _ hσ hI ?_ ?_ ?_ ⟨by simp [Act.put], fun k hk => ?_⟩ ?_
    · intro b blk k q hb ht hk
      have hks := (hnot k hk).2
      have hk' : Nat.beq k s = false := by cases hh : Nat.beq k s with
        | true => exact (hks (Nat.eq_of_beq_eq_true hh)).elim
        | false => rfl
      have : ρ blk.tag = some blk.tag := by rw [ht, hρ]; simp [hk']
      unfold hren
      simp only [hb, this]
      rw [withTag_self]
    · intro b blk hb
      obtain ⟨y, t, k1, k2, rfl⟩ := hren_some hb
      obtain ⟨k3, k4⟩ := hρs _ _ k2
      obtain ⟨k, q, e1, e2⟩ := S.own b y k1
      refine ⟨k, q, by rw [Blk.tag_withTag, k3, e1], fun hk => ?_, fun _ => by rw [k1, k3, withTag_self]⟩
      rcases (hhas k).1 hk with rfl | rfl
      · exact (hnod e2).elim
      · exact (k4 q e1).elim
    · intro k v hk hv'
      rcases (hhas k).1 hk with rfl | rfl
      · rw [get_cons, if_pos rfl] at hv'
        injection hv' with hv'
        subst hv'
        refine ⟨by simpa [Act.put] using h2, ?_, pure_okTop hp, fun u hu => by rw [pure_looks hp] at hu; cases hu⟩
        have : (a.put (some k) (a.tmps.getD s undef)).tmps.getD k undef = a.tmps.getD s undef := by
          show (a.tmps.setIfInBounds k _).getD k undef = _
          rw [getD_set, if_pos ⟨rfl, h2⟩]
        rw [this]
        exact ⟨cc, hw, hrel _⟩
      · rw [get_cons, if_neg hds, get_cons, if_pos rfl] at hv'
        injection hv' with hv'
        subst hv'
        refine ⟨by simpa [Act.put] using (S.vals k _ hv).1, ?_, pure_okTop hp, fun u hu => by rw [pure_looks hp] at hu; cases hu⟩
        have : (a.put (some d) (a.tmps.getD k undef)).tmps.getD k undef = a.tmps.getD k undef := by
          show (a.tmps.setIfInBounds d _).getD k undef = _
          rw [getD_set, if_neg (fun hh => hds hh.1)]
        rw [this]
        exact ⟨cc, hw, hrel _⟩
    · show (a.tmps.setIfInBounds d _).getD k undef = _
      rw [getD_set, if_neg (fun hh => (hnot k hk).1 hh.1.symm)]
    · intro s' v k q hs hns hl hk hdead
      exfalso
      rcases (hhas k).1 hk with rfl | rfl
      · obtain ⟨k', r', e1, e2⟩ := S.look s' v _ hs hl
        injection e1 with e1 _
        subst e1
        exact hnod e2
      · rw [dead_of hl (c := [k]) (by simp) isPre_single] at hdead; cases hdead
  · simp at hK

/-! ranges over strings -/
theorem bytesOf_ints (s : ByteArray) : bytesOf (ints s) = s := by
  unfold bytesOf ints
  rw [List.map_map]
  have : ((fun x : Int => UInt8.ofNat x.toNat) ∘ fun b : UInt8 => (b.toNat : Int)) = id := by
    funext b; simp
  rw [this, List.map_id]
theorem decode_lt (s : ByteArray) (i : Nat) : (Utf8.decode s i).1 < 2147483648 := by
  have hb : ∀ k, (s.get! (i + k)).toNat < 256 := fun k => UInt8.toNat_lt _
  have h0 := hb 0; have h1 := hb 1; have h2 := hb 2; have h3 := hb 3
  unfold Utf8.decode
  simp only [Nat.add_zero] at *
  repeat' split
  all_goals first | (simp only [Utf8.runeError]; omega) | (simp only []; omega)
theorem decode_pos (s : ByteArray) (i : Nat) : 1 ≤ (Utf8.decode s i).2 := by
  unfold Utf8.decode
  simp only []
  repeat' split
  all_goals simp
def putO (w : World) (b : Nat) (o : Obj) : World := { w with heap := w.heap.setIfInBounds b o }
def stO (b : Nat) (x : Blk) (h : Hp) : Hp := fun c => if c = b then some x else h c

theorem Inv.addObj {w w' : World} {σ : Sg} {h : Hp} (I : Inv w σ h) {ob : Obj} {tg : Tag} (hw : w'.heap = w.heap.push ob) (ht : ∀ b x, h b = some x → x.tag ≠ tg) : Inv w' σ (h.add w.heap.size (.obj ob tg)) := by
  have J := I.push hw
  refine ⟨fun b x c hb hcc => ?_, fun b es t hb => ?_, fun b x hb j => ?_, J.sta, fun b c x y hb hcc hxy => ?_⟩
  · unfold Hp.add at hb
    split at hb
    · injection hb with hb; subst hb; cases hcc
    · exact J.cells b x c hb hcc
  · unfold Hp.add at hb
    split at hb
    · rename_i e1
      injection hb with hb
      injection hb with hb _
      subst hb
      rw [e1, push_new hw]
    · exact J.maps b es t hb
  · unfold Hp.add at hb
    split at hb
    · rename_i e1
      cases hs : σ b j with
      | none => rfl
      | some v => have := I.ltσ hs; omega
    · exact I.own b x hb j
  · unfold Hp.add at hb hcc
    split at hb <;> split at hcc
    · omega
    · injection hb with hb; subst hb; exact (ht _ _ hcc hxy.symm).elim
    · injection hcc with hcc; subst hcc; exact (ht _ _ hb hxy).elim
    · exact I.inj b c x y hb hcc hxy
theorem putO_other {w : World} {b c : Nat} {ob : Obj} (h : c ≠ b) : (putO w b ob).heap[c]? = w.heap[c]? := by
  simp [putO, Array.getElem?_setIfInBounds_ne (Ne.symm h)]
theorem Inv.stO {w : World} {σ : Sg} {h : Hp} (I : Inv w σ h) {b : Nat} {o0 o1 : Obj} {tg : Tag} (hb : h b = some (.obj o0 tg)) : Inv (putO w b o1) σ (stO b (.obj o1 tg) h) := by
  have hlt : b < w.heap.size := I.lt hb
  refine ⟨fun c z ds hc hz => ?_, fun c es u hc => ?_, fun c z hc j => ?_, fun c j v hc => ?_, fun c d z u hc hd hzu => ?_⟩
  · unfold Bw.stO at hc
    split at hc
    · injection hc with hc; subst hc; cases hz
    · rename_i e1
      rw [putO_other e1]
      exact I.cells c z ds hc hz
  · unfold Bw.stO at hc
    split at hc
    · rename_i e1
      injection hc with hc
      injection hc with hc _
      subst hc e1
      simp [putO, hlt]
    · rename_i e1
      rw [putO_other e1]
      exact I.maps c es u hc
  · unfold Bw.stO at hc
    split at hc
    · rename_i e1; subst e1; exact I.own _ _ hb j
    · exact I.own c z hc j
  · have hne : c ≠ b := by
      rintro rfl
      rw [I.own c _ hb j] at hc; cases hc
    exact (cell?_eq (w := w) (putO_other hne)).trans (I.sta c j v hc)
  · unfold Bw.stO at hc hd
    split at hc <;> split at hd
    · omega
    · rename_i e1 e2; injection hc with hc; subst hc; exact (e2 (I.inj b d _ u hb hd hzu).symm).elim
    · rename_i e1 e2; injection hd with hd; subst hd; exact (e1 (I.inj c b z _ hc hb hzu)).elim
    · exact I.inj c d z u hc hd hzu

theorem op_nxt {d s : Nat} {x : Operand} (S : SRel σ h st a.tmps w) (hop : o.op = .next x true) (hd : dstOk a.tmps.size o d = true) (hx : opdOk (.t s) x = true)
    (hK : evOp st.get K (.nxt d s) = some r) : o.wp P a w (Post σ h w st K r a) Q := by
  have hev := opdT_eval (a := a) hx
  simp only [evOp] at hK
  split at hK
  · rename_i p hv
    obtain ⟨l, p⟩ : List Int × Int := p
    obtain ⟨hcc, hK⟩ := bif_some hK
    simp only [Bool.and_eq_true, Bool.not_eq_true'] at hcc
    obtain ⟨hf, hds⟩ := hcc
    have hds : d ≠ s := fun e => by rw [e] at hds; simp at hds
    obtain ⟨g1, g2⟩ := dstOk_eq hd
    obtain ⟨_, cc, hw, hr⟩ := S.vals s _ hv
    simp only [Rel] at hr
    obtain ⟨b, str, e1, e2, e3, e4, e5⟩ := hr
    have hxv : a.tmps.getD s undef = .pointer (some ⟨b, 0, none⟩) := by have := slot_single rfl hw; rw [this] at e1; injection e1
    have hheap := S.inv.maps b _ _ e2
    have hlen : l.length = str.size := by rw [← e3]; simp [ints]
    have hown : Owns st s := ⟨_, hv, rfl, rfl⟩
    have hno := not_owns_of_fresh hf
    have hobj : (getObj b).run P w = .ok (.stringIter str p.toNat) w := by simp [getObj, Sem.run, hheap]
    cases hlt : decide (p < (l.length : Int)) with
    | true =>
      rw [hlt] at hK
      simp only [cond_true] at hK
      have hlt : p < (l.length : Int) := of_decide_eq_true hlt
      have hpl : p.toNat < str.size := by omega
      have hbl : bytesOf l = str := by rw [← e3, bytesOf_ints]
      have hrun : (execOp a.eval o).run P w = .ok (.value (.tuple #[.bool true, goInt p.toNat, .int .i32 ((Utf8.decode str p.toNat).1 : Int)])) (putO w b (.stringIter str (p.toNat + (Utf8.decode str p.toNat).2))) := by
        unfold execOp
        rw [hop]
        simp only [hev, hxv, Instr.next, Sem.run_bind, hobj, Result.andThen_ok]
        simp [hpl, setObj, Sem.run, hheap, putO]
      unfold Oper.wp
      rw [hrun, Oper.upon_value, g1]
      have hd1 : (decL l p).1 = ((Utf8.decode str p.toNat).1 : Int) := by simp only [decL, hbl]
      have hd2 : (decL l p).2 = ((Utf8.decode str p.toNat).2 : Int) := by simp only [decL, hbl]
      rw [hd1, hd2] at hK
      have hput : Inv (putO w b (.stringIter str (p.toNat + (Utf8.decode str p.toNat).2))) σ (stO b (.obj (.stringIter str (p.toNat + (Utf8.decode str p.toNat).2)) [s]) h) := S.inv.stO e2
      have hoth : ∀ c x, h c = some x → c ≠ b → stO b (.obj (.stringIter str (p.toNat + (Utf8.decode str p.toNat).2)) [s]) h c = some x := fun c x hc hne => by unfold stO; rw [if_neg hne]; exact hc
      have hself : stO b (.obj (.stringIter str (p.toNat + (Utf8.decode str p.toNat).2)) [s]) h b = some (.obj (.stringIter str (p.toNat + (Utf8.decode str p.toNat).2)) [s]) := by unfold stO; rw [if_pos rfl]
      have hbt : ∀ c x k q, h c = some x → x.tag = k :: q → k ≠ s → c ≠ b := fun c x k q hc ht hk e => by
        subst e
        rw [e2] at hc
        injection hc with hc
        subst hc
        injection ht with ht _
        exact hk ht.symm
      have gd : ∀ (v1 v2 : Option SV), St.get [(d, v1), (s, v2)] d = v1 := fun _ _ => by rw [get_cons, if_pos rfl]
      have gs : ∀ (v1 v2 : Option SV), St.get [(d, v1), (s, v2)] s = v2 := fun _ _ => by rw [get_cons, if_neg hds, get_cons, if_pos rfl]
      have hhas : ∀ (v1 v2 : Option SV) k, hasS [(d, v1), (s, v2)] k = true → k = d ∨ k = s := fun _ _ k hk => by
        simp only [hasS, Bool.or_false, Bool.or_eq_true] at hk
        rcases hk with hk | hk
        · exact .inl (beq_iff.1 hk).symm
        · exact .inr (beq_iff.1 hk).symm
      have hnot : ∀ (v1 v2 : Option SV) k, hasS [(d, v1), (s, v2)] k = false → d ≠ k ∧ s ≠ k := fun _ _ k hk => by
        simp only [hasS, Bool.or_false, Bool.or_eq_false_iff] at hk
        exact ⟨fun e => by rw [e] at hk; simp at hk, fun e => by rw [e] at hk; simp at hk⟩
      refine ⟨σ, stO b (.obj (.stringIter str (p.toNat + (Utf8.decode str p.toNat).2)) [s]) h, _, _, hK, ⟨by simp [putO], σ.le_refl, rfl, rfl, rfl, fun c hc hn => ⟨putO_other (fun e => by rw [e, e2] at hn; cases hn), by unfold stO; rw [if_neg (fun e => by rw [e, e2] at hn; cases hn)]; exact hn, fun _ => rfl⟩⟩, ?_, rfl, by simp [Act.put]⟩
      refine SRel.upd2 S _ _ σ.le_refl hput ?_ ?_ ?_ ⟨by simp [Act.put], fun k hk => ?_⟩ ?_
      · exact fun c x k q hc ht hk => hoth c x hc (hbt c x k q hc ht (Ne.symm (hnot _ _ k hk).2))
      · intro c x hc
        unfold stO at hc
        split at hc
        · injection hc with hc
          subst hc
          exact ⟨s, [], rfl, fun _ => ⟨_, gs _ _, rfl, rfl⟩, fun hk => by simp [hasS] at hk⟩
        · rename_i hne
          obtain ⟨k, q, e, ho⟩ := S.own c x hc
          refine ⟨k, q, e, fun hk => ?_, fun _ => hc⟩
          rcases hhas _ _ k hk with rfl | rfl
          · exact (hno ho).elim
          · exact ⟨_, gs _ _, rfl, rfl⟩
      · intro k v hk hv'
        rcases hhas _ _ k hk with rfl | rfl
        · rw [gd] at hv'
          injection hv' with hv'
          subst hv'
          simp only [Act.put]
          rw [getD_set, if_pos ⟨rfl, g2⟩]
          refine ⟨by simpa using g2, ⟨[_], rfl, ?_⟩, .inl rfl⟩
          simp only [Rel]
          have hmx : (str.size : Int) ≤ 9223372036854775807 := by have := e5; simp only [maxLen] at this; omega
          have hdl := decode_lt str p.toNat
          have hp0 : ((p.toNat : Nat) : Int) = p := by omega
          refine ⟨_, rfl, .bool true, _, rfl, ⟨[.bool true], rfl, rfl⟩, goInt p.toNat, _, rfl, ⟨[.int .i64 p], by rw [← hp0]; rfl, rfl, ?_⟩, .int .i32 ((Utf8.decode str p.toNat).1 : Int), [], rfl, ⟨[_], rfl, rfl, ?_⟩, rfl⟩
          · simp [inK, IntKind.min, IntKind.max, IntKind.signed, IntKind.bits]; omega
          · simp [inK, IntKind.min, IntKind.max, IntKind.signed, IntKind.bits]; omega
        · rw [gs] at hv'
          injection hv' with hv'
          subst hv'
          simp only [Act.put]
          rw [getD_set, if_neg (fun hh => hds hh.1)]
          refine ⟨by simpa using (S.vals k _ hv).1, ⟨[_], by rw [hxv]; rfl, ?_⟩, .inl rfl⟩
          simp only [Rel]
          refine ⟨b, str, rfl, ?_, e3, by omega, e5⟩
          rw [hself]
          congr 3
          omega
      · simp only [Act.put]
        rw [getD_set, if_neg (fun hh => (hnot _ _ k hk).1 hh.1)]
      · intro s' v k q hs' hns hlk hk hok hdead
        exfalso
        rcases hhas _ _ k hk with rfl | rfl
        · exact hno hok
        · rw [dead_of hlk (c := [k]) (by simp) isPre_single] at hdead; cases hdead
    | false =>
      rw [hlt] at hK
      simp only [cond_false] at hK
      have hlt : ¬ p < (l.length : Int) := of_decide_eq_false hlt
      have hpl : ¬ p.toNat < str.size := by omega
      have hrun : (execOp a.eval o).run P w = .ok (.value (.tuple #[.bool false])) w := by
        unfold execOp
        rw [hop]
        simp only [hev, hxv, Instr.next, Sem.run_bind, hobj, Result.andThen_ok]
        simp [hpl]
      refine wp_put (v := ⟨.tup (.pair .bool .unit), (false, ())⟩) S hd (by unfold Bw.put; rw [hf]; exact hK) hrun rfl rfl rfl rfl ⟨[_], rfl, ?_⟩ rfl (fun t ht => by cases ht)
      simp only [Rel]
      exact ⟨_, rfl, .bool false, [], rfl, ⟨[.bool false], rfl, rfl⟩, rfl⟩
  · simp at hK
theorem op_rng {d : Nat} {b : Opd} {t : TypeId} {x : Operand} (ht : TabOk P tab) (S : SRel σ h st a.tmps w) (hop : o.op = .range t x) (hd : dstOk a.tmps.size o d = true) (hx : opdOk b x = true) (hs : tabD tab t descStr = true)
    (hK : evOp st.get K (.rng d b) = some r) : o.wp P a w (Post σ h w st K r a) Q := by
  simp only [evOp] at hK
  split at hK
  · rename_i xs hb
    obtain ⟨xs, rfl⟩ : ∃ l : List Int, l = xs := ⟨xs, rfl⟩
    obtain ⟨s, e1, e2, e3⟩ := opd_str S hx hb
    obtain ⟨dd, hu, hdd⟩ := tabD_ok ht hs
    rw [descStr_eq hdd] at hu
    obtain ⟨hf, hk⟩ := put_some hK
    obtain ⟨h1, h2⟩ := dstOk_eq hd
    have hrun : (execOp a.eval o).run P w = .ok (.value (.pointer (some ⟨w.heap.size, 0, none⟩))) { w with heap := w.heap.push (.stringIter s 0) } := by
      unfold execOp
      rw [hop]
      simp [Instr.range, run_underlying hu, e1, newObj, Sem.run]
    unfold Oper.wp
    rw [hrun, Oper.upon_value, h1]
    have hw : ({ w with heap := w.heap.push (.stringIter s 0) } : World).heap = w.heap.push (.stringIter s 0) := rfl
    have hold : ∀ b blk', h b = some blk' → h.add w.heap.size (.obj (.stringIter s 0) [d]) b = some blk' := fun b blk' hb => by
      unfold Hp.add; rw [if_neg (by have := S.inv.lt hb; omega)]; exact hb
    refine ⟨σ, h.add w.heap.size (.obj (.stringIter s 0) [d]), _, _, hk, ⟨by simp, σ.le_refl, rfl, rfl, rfl, fun b hb hn => ⟨push_old hw hb, ?_, fun _ => rfl⟩⟩, ?_, rfl, by simp [Act.put]⟩
    · unfold Hp.add; rw [if_neg (by omega)]; exact hn
    · refine S.put hf h2 σ.le_refl (S.inv.addObj hw (fun b x hb => no_tag S hf hb)) hold (fun b blk' hb => ?_) ⟨[_], rfl, ?_⟩ rfl (fun u hu => by cases hu)
      · unfold Hp.add at hb
        split at hb
        · injection hb with hb; subst hb; exact .inr ⟨[], rfl, rfl, rfl⟩
        · exact .inl hb
      · simp only [Rel]
        refine ⟨w.heap.size, s, rfl, ?_, e2, by omega, e3⟩
        unfold Hp.add
        simp
  · simp at hK
end
end Go.Proofs.Bw

/- The library of this work, part 2: an evaluator of annotated code, and that what it answers is what the machine does. No conditions. -/
import Derived.Test.YtpkpihcdbgckkaaBw1
import Derived.Laws.MakeOwn
import Derived.Laws.BytesString
import Derived.Laws.BytesArg
import Derived.Great.BuildSlice
import Derived.Orders
set_option linter.unusedVariables false
set_option linter.unusedSimpArgs false
set_option linter.unnecessarySimpa false
namespace Go.Proofs.Bw
open Go

section
variable {P : Program} {R : Type} {σ : Sg} {h : Hp} {st : St} {a : Act} {w : World} {K : St → List Tag → Option R} {r : R} {o : Oper} {Q : Exit → Act → World → Prop} {tab : Tab}

theorem opd_int2 {b : Opd} {x : Operand} {k : IntKind} {n : Int} (S : SRel σ h st a.tmps w) (ho : opdOk b x = true) (hb : opv st.get b = some ⟨.int k, n⟩) : a.eval x = .int k n ∧ inK k n :=
  opd_int S ho (by simp only [opI, hb])
theorem len_in {n : Nat} (hn : n ≤ maxLen) : inK .i64 (n : Int) := by
  simp only [maxLen] at hn
  simp only [inK, IntKind.min, IntKind.max, IntKind.signed, IntKind.bits]
  simp
  omega
theorem slOk_len {z : Nm} {ad : Option Addr} {len cap : Nat} (hk : SlOk z ad len cap) : len ≤ maxLen := Nat.le_trans hk.1 hk.2.2.1

def lenOk (tab : Tab) (t : Nat) : Bool := tabD tab t fun d => descIsSl d || descStr d
theorem op_len {d : Nat} {str : Bool} {b : Opd} {t : TypeId} {x : Operand} (ht : TabOk P tab) (S : SRel σ h st a.tmps w) (hop : o.op = .call { callee := .builtin .len, args := #[x], argTypes := #[t] }) (hd : dstOk a.tmps.size o d = true) (hx : opdOk b x = true)
    (hs : tabD tab t (fun z => bif str then descStr z else descIsSl z) = true)
    (hK : evOp st.get K (.len d b str) = some r) : o.wp P a w (Post σ h w st K r a) Q := by
  have run : ∀ (n : Nat) (v : Value), a.eval x = v → (∀ w, (Builtin.len_ #[t] o.type #[v]).run P w = .ok (.int .i64 n) w) → (execOp a.eval o).run P w = .ok (.value (.int .i64 n)) w := by
    intro n v hv hl
    unfold execOp
    rw [hop]
    simp [resolve, invoke, builtin, hv, hl]
  have fin : ∀ (n : Nat) (v : Value), n ≤ maxLen → a.eval x = v → (∀ w, (Builtin.len_ #[t] o.type #[v]).run P w = .ok (.int .i64 n) w) → put st.get d ⟨.int .i64, (n : Int)⟩ K = some r → o.wp P a w (Post σ h w st K r a) Q :=
    fun n v hn hv hl hk => wp_put_pure (v := ⟨.int .i64, (n : Int)⟩) S hd hk (run n v hv hl) rfl rfl rfl rfl rfl (vrel_int (len_in hn) [])
  have slc : ∀ (n : Nat) (ad : Option Addr) (cap : Nat), tabD tab t descIsSl = true → n ≤ maxLen → a.eval x = .slice ad n cap → put st.get d ⟨.int .i64, (n : Int)⟩ K = some r → o.wp P a w (Post σ h w st K r a) Q := by
    intro n ad cap hs hn hv hk
    obtain ⟨dd, hu, hdd⟩ := tabD_ok ht hs
    obtain ⟨e, rfl⟩ := descIsSl_eq hdd
    exact fin n _ hn hv (fun w => by simp [Builtin.len_, run_underlying hu, goInt]) hk
  simp only [evOp] at hK
  split at hK
  · rename_i z c e xs hb
    obtain ⟨tg, ⟨cc, hw, hr⟩⟩ := opd_rel S hx hb
    simp only [Rel] at hr
    obtain ⟨ad, len, cap, e1, e2, e3, _⟩ := hr
    have hxv : a.eval x = .slice ad len cap := by have := slot_single rfl hw; rw [this] at e1; injection e1
    rw [← e3] at hK
    exact slc len ad cap hs (slOk_len e2) hxv hK
  · rename_i z u e xs hb
    obtain ⟨tg, ⟨cc, hw, hr⟩⟩ := opd_rel S hx hb
    simp only [Rel] at hr
    obtain ⟨ad, len, cap, e1, e2, e3, _⟩ := hr
    have hxv : a.eval x = .slice ad len cap := by have := slot_single rfl hw; rw [this] at e1; injection e1
    rw [← e3] at hK
    exact slc len ad cap hs (slOk_len e2) hxv hK
  · rename_i z u e xs hb
    obtain ⟨tg, ⟨cc, hw, hr⟩⟩ := opd_rel S hx hb
    simp only [Rel] at hr
    obtain ⟨ad, len, cap, e1, e2, e3, _⟩ := hr
    have hxv : a.eval x = .slice ad len cap := by have := slot_single rfl hw; rw [this] at e1; injection e1
    rw [← e3] at hK
    exact slc len ad cap hs (slOk_len e2) hxv hK
  · rename_i z e xs hb
    obtain ⟨tg, ⟨cc, hw, hr⟩⟩ := opd_rel S hx hb
    simp only [Rel] at hr
    obtain ⟨ad, len, cap, e1, e2, e3, _⟩ := hr
    have hxv : a.eval x = .slice ad len cap := by have := slot_single rfl hw; rw [this] at e1; injection e1
    rw [← e3] at hK
    exact slc len ad cap hs (slOk_len e2) hxv hK
  · rename_i xs hb
    obtain ⟨s, hxv, hxs, hsz⟩ := opd_str S hx hb
    obtain ⟨dd, hu, hdd⟩ := tabD_ok ht hs
    rw [descStr_eq hdd] at hu
    have hl : List.length (α := Int) xs = s.size := by rw [← hxs, ints_length]
    rw [hl] at hK
    exact fin s.size _ hsz hxv (fun w => by simp [Builtin.len_, run_underlying hu, goInt]) hK
  · rename_i xs hb
    obtain ⟨tg, ⟨cc, hw, hr⟩⟩ := opd_rel S hx hb
    simp only [Rel, nilVal] at hr
    have hxv : a.eval x = .slice none 0 0 := by have := slot_single rfl hw; rw [this] at hr; injection hr
    exact slc 0 _ _ hs (by simp [maxLen]) hxv hK
  · simp at hK

theorem op_pick {d : Nat} {b1 b2 b3 : Opd} {x y z : Operand} (S : SRel σ h st a.tmps w) (hop : o.op = .pick x y z) (hd : dstOk a.tmps.size o d = true) (hx : opdOk b1 x = true) (hy : opdOk b2 y = true) (hz : opdOk b3 z = true)
    (hK : evOp st.get K (.pick d b1 b2 b3) = some r) : o.wp P a w (Post σ h w st K r a) Q := by
  simp only [evOp] at hK
  split at hK
  · rename_i c p q hb1 hb2 hb3
    have e1 := opd_bool S hx hb1
    have e2 := opd_bool S hy hb2
    have e3 := opd_bool S hz hb3
    refine wp_put_pure (v := ⟨.bool, bif c then p else q⟩) S hd hK (val := .bool (bif c then p else q)) ?_ rfl rfl rfl rfl rfl (vrel_bool _ [])
    unfold execOp
    rw [hop]
    cases c <;> simp [e1, e2, e3, asBool] <;> rfl
  · simp at hK

theorem op_un {d : Nat} {u : UnOp} {b : Opd} {t : TypeId} {x : Operand} (S : SRel σ h st a.tmps w) (hop : o.op = .unOp u t x) (hd : dstOk a.tmps.size o d = true) (hx : opdOk b x = true)
    (hK : evOp st.get K (.un d u b) = some r) : o.wp P a w (Post σ h w st K r a) Q := by
  simp only [evOp] at hK
  split at hK
  · rename_i c hb
    have e1 := opd_bool S hx hb
    refine wp_put_pure (v := ⟨.bool, !c⟩) S hd hK (val := .bool (!c)) ?_ rfl rfl rfl rfl rfl (vrel_bool _ [])
    unfold execOp
    rw [hop]
    simp [e1, Op.unary]
  · rename_i n c hb
    obtain ⟨tg, cc, hw, hr⟩ := opd_rel S hx hb
    simp only [Rel] at hr
    obtain ⟨v, e2, e3⟩ := hr
    have e1 : a.eval x = .bool v := by have := slot_single rfl hw; rw [this] at e2; injection e2
    refine wp_put_pure (v := ⟨.nb (!n), c⟩) S hd hK (val := .bool (!v)) (t := []) ?_ rfl rfl rfl rfl rfl ⟨[.bool (!v)], rfl, ?_⟩
    · unfold execOp
      rw [hop]
      simp [e1, Op.unary]
    · simp only [Rel]
      exact ⟨!v, rfl, fun h => by rw [e3 h]⟩
  · rename_i k n hb
    obtain ⟨m, hm⟩ : ∃ m : Int, m = n := ⟨n, rfl⟩
    subst hm
    obtain ⟨e1, _⟩ := opd_int2 S hx hb
    refine wp_put_pure (v := ⟨.int k, k.wrap (0 - m)⟩) S hd hK (val := .int k (k.wrap (0 - m))) ?_ rfl rfl rfl rfl rfl (vrel_int (wrap_in _ _) [])
    unfold execOp
    rw [hop]
    simp [e1, Op.unary, Op.intArith]
  · rename_i k n hb
    obtain ⟨e1, _⟩ := opd_int2 S hx hb
    refine wp_put_pure (v := ⟨.int k, ixor k (if k.signed then -1 else k.max) n⟩) S hd hK (val := .int k (ixor k (if k.signed then -1 else k.max) n)) ?_ rfl rfl rfl rfl rfl (vrel_int (by unfold ixor; exact wrap_in _ _) [])
    unfold execOp
    rw [hop]
    simp [e1, Op.unary]
    rfl
  · simp at hK

def cvtIok (tab : Tab) (src dst : Nat) (k : IntKind) : Bool := (tab.get src).isSome && tabD tab dst (descInt k)
theorem op_cvtI {d : Nat} {k : IntKind} {b : Opd} {s t : TypeId} {x : Operand} (ht : TabOk P tab) (S : SRel σ h st a.tmps w) (hop : o.op = .convert s t x) (hd : dstOk a.tmps.size o d = true) (hx : opdOk b x = true) (hc : cvtIok tab s t k = true)
    (hK : evOp st.get K (.cvt d (.int k) b) = some r) : o.wp P a w (Post σ h w st K r a) Q := by
  simp only [evOp] at hK
  simp only [cvtIok, Bool.and_eq_true] at hc
  obtain ⟨hc1, hc2⟩ := hc
  split at hK
  · rename_i k' j n hk hb
    injection hk with hk
    subst hk
    obtain ⟨e1, _⟩ := opd_int2 S hx (gpo_opv hb rfl)
    obtain ⟨dd, hu, hdd⟩ := tabD_ok ht hc2
    rw [descInt_eq hdd] at hu
    obtain ⟨i, hi⟩ := Option.isSome_iff_exists.1 hc1
    have hus := (ht s i hi).1
    refine wp_put_pure (v := ⟨.int k, k.wrap n⟩) S hd hK (val := .int k (k.wrap n)) ?_ rfl rfl rfl rfl rfl (vrel_int (wrap_in _ _) [])
    unfold execOp
    rw [hop]
    simp [convert, run_underlying hus, run_underlying hu, e1, Conv.intToInt]
  all_goals (rename_i hk _; first | (injection hk; done) | skip)
  all_goals (first | (simp at hK; done) | (simp_all; done) | skip)

/-- a string's type turned into another string's -/
theorem op_cvtSame {d : Nat} {b : Opd} {s t : TypeId} {x : Operand} (ht : TabOk P tab) (S : SRel σ h st a.tmps w) (hop : o.op = .convert s t x) (hd : dstOk a.tmps.size o d = true) (hx : opdOk b x = true)
    (hc : (tab.get s).isSome = true ∧ tabD tab t descStr = true)
    (hK : evOp st.get K (.cvt d .same b) = some r) : o.wp P a w (Post σ h w st K r a) Q := by
  simp only [evOp] at hK
  split at hK <;> first | contradiction | skip
  rename_i l hcv hb
  obtain ⟨str, e1, e2, e3⟩ := opd_str S hx (gpo_opv hb rfl)
  obtain ⟨dd, hu, hdd⟩ := tabD_ok ht hc.2
  rw [descStr_eq hdd] at hu
  obtain ⟨i, hi⟩ := Option.isSome_iff_exists.1 hc.1
  have hus := (ht s i hi).1
  subst e2
  refine wp_put_pure (v := ⟨.str, ints str⟩) S hd hK (val := .string str) ?_ rfl rfl rfl rfl rfl (vrel_str e3 [])
  unfold execOp
  rw [hop]
  simp [convert, run_underlying hus, run_underlying hu, e1]

theorem op_nilchk {d : Nat} {b : Opd} {x : Operand} (S : SRel σ h st a.tmps w) (hop : o.op = .nilCheck x) (hd : dstOk a.tmps.size o d = true) (hx : opdOk b x = true) (hnc : ∀ u, b ≠ .c u)
    (hK : evOp st.get K (.nilchk d b) = some r) : o.wp P a w (Post σ h w st K r a) Q := by
  have run : ∀ v, a.eval x = v → (∃ ad, v = .pointer (some ad)) ∨ (∃ f c, v = .func (.func f) #[] c) → (execOp a.eval o).run P w = .ok (.value v) w := by
    intro v hv hcase
    unfold execOp
    rw [hop]
    rcases hcase with ⟨ad, rfl⟩ | ⟨f, c, rfl⟩ <;> simp [hv]
  simp only [evOp] at hK
  split at hK
  · rename_i u off str n p i hb
    obtain ⟨tg, ⟨cc, hw, hr⟩, hok, hlk⟩ := gpo_rel S hx hb
    simp only [Rel] at hr
    obtain ⟨bk, ch, e1, e2, e3⟩ := hr
    have hxv : a.eval x = .pointer (some ⟨bk, off + str * Int.toNat i, none⟩) := by have := slot_single rfl hw; rw [this] at e1; injection e1
    refine wp_put (v := ⟨.ptr u off str n p, i⟩) S hd hK (run _ hxv (.inl ⟨_, rfl⟩)) rfl rfl rfl rfl ⟨_, rfl, ?_⟩ rfl (hlk hnc)
    simp only [Rel]
    exact ⟨bk, ch, rfl, e2, e3⟩
  · rename_i e y hb
    obtain ⟨tg, ⟨cc, hw, hr⟩, hok, hlk⟩ := gpo_rel S hx hb
    have hpe : (Ty.cref e).pure = true := by
      rcases hok with hok | ⟨u, hu⟩
      · simpa [Ty.okTop, Ty.closed, Ty.pure] using hok
      · exact (hnc u hu).elim
    have hr' := hr
    simp only [Rel] at hr'
    obtain ⟨bk, off, e1, _⟩ := hr'
    have hc1 := slot_single rfl hw
    have hxv : a.eval x = .pointer (some ⟨bk, off, none⟩) := by rw [hc1] at e1; injection e1
    refine wp_put_pure (v := ⟨.cref e, y⟩) S hd hK (run _ hxv (.inl ⟨_, rfl⟩)) rfl rfl rfl rfl hpe (t := tg) ⟨cc, ?_, hr⟩
    rw [← hxv]; exact hw
  · rename_i e y hb
    obtain ⟨y, rfl⟩ : ∃ z : Option e.den, z = y := ⟨y, rfl⟩
    cases y with
    | none => cases hK
    | some y =>
      have hK : put st.get d ⟨.cref e, y⟩ K = some r := hK
      obtain ⟨tg, ⟨cc, hw, hr⟩, hok, hlk⟩ := gpo_rel S hx hb
      have hpe : (Ty.cref e).pure = true := by
        rcases hok with hok | ⟨u, hu⟩
        · simpa [Ty.okTop, Ty.closed, Ty.pure] using hok
        · exact (hnc u hu).elim
      simp only [Rel] at hr
      obtain ⟨bk, off, e1, e2⟩ := hr
      have hc1 := slot_single rfl hw
      have hxv : a.eval x = .pointer (some ⟨bk, off, none⟩) := by rw [hc1] at e1; injection e1
      refine wp_put_pure (v := ⟨.cref e, y⟩) S hd hK (run _ hxv (.inl ⟨_, rfl⟩)) rfl rfl rfl rfl hpe (t := tg) ⟨_, rfl, ?_⟩
      simp only [Rel]
      exact ⟨bk, off, rfl, e2⟩
  · rename_i u e y hb
    obtain ⟨tg, ⟨cc, hw, hr⟩, hok, hlk⟩ := gpo_rel S hx hb
    have hpe : e.pure = true := by
      rcases hok with hok | ⟨u, hu⟩
      · simpa [Ty.okTop] using hok
      · exact (hnc u hu).elim
    simp only [Rel] at hr
    obtain ⟨bk, off, ch, e1, e2, e3, e4⟩ := hr
    have hc1 := slot_single rfl hw
    have hxv : a.eval x = .pointer (some ⟨bk, off, none⟩) := by rw [hc1] at e1; injection e1
    refine wp_put (v := ⟨.vref u e, y⟩) S hd hK (run _ hxv (.inl ⟨_, rfl⟩)) rfl rfl rfl rfl ⟨_, rfl, ?_⟩ (by simpa [Ty.okTop] using hpe) (hlk hnc)
    simp only [Rel]
    exact ⟨bk, off, ch, rfl, e2, e3, Rel.pure σ.le_refl hpe e4⟩
  · rename_i f c y hb
    obtain ⟨hpc, hK⟩ := bif_some hK
    obtain ⟨tg, ⟨cc, hw, hr⟩, hok, hlk⟩ := gpo_rel S hx hb
    have hr' := hr
    simp only [Rel] at hr'
    obtain ⟨vs, e1, _⟩ := hr'
    have hc1 := slot_single rfl hw
    have hxv : a.eval x = .func (.func f) #[] ⟨vs⟩ := by rw [hc1] at e1; injection e1
    refine wp_put_pure (v := ⟨.fn f c, y⟩) S hd hK (run _ hxv (.inr ⟨f, _, rfl⟩)) rfl rfl rfl rfl (show (Ty.fn f c).pure = true from hpc) (t := tg) ⟨cc, ?_, hr⟩
    rw [← hxv]; exact hw
  · simp at hK
end
end Go.Proofs.Bw
namespace Go.Proofs.Bw
open Go

section
variable {P : Program} {R : Type} {σ : Sg} {h : Hp} {st : St} {a : Act} {w : World} {K : St → List Tag → Option R} {r : R} {o : Oper} {Q : Exit → Act → World → Prop} {tab : Tab} {hd : List Nat}

def descIsPtr : TypeDesc → Bool
  | .pointer _ => true
  | _ => false
theorem descIsPtr_eq {d : TypeDesc} (h : descIsPtr d = true) : ∃ e, d = .pointer e := by cases d <;> simp [descIsPtr] at h; exact ⟨_, rfl⟩
theorem eqGuard_sl {op : BinOp} {t : TypeId} {x y : Operand} {ad : Option Addr} {n m : Nat} {v : Value} : eqGuard op t x y (.slice ad n m) v = pure () := by cases op <;> rfl
theorem eqGuard_pt {op : BinOp} {t : TypeId} {x y : Operand} {ad : Option Addr} {v : Value} : eqGuard op t x y (.pointer ad) v = pure () := by cases op <;> rfl

def eqOp (neg : Bool) : BinOp := bif neg then .neq else .eql
theorem run_eqnil {neg : Bool} {t u : TypeId} {x y : Operand} (hop : o.op = .binOp (eqOp neg) t x y u) {va vb : Value} (ha : a.eval x = va) (hb : a.eval y = vb) (hg : ∀ op, eqGuard op t x y va vb = pure ()) {b : Bool}
    (hr : ∀ w, (Op.equal t va vb).run P w = .ok b w) (hsh : ∀ op, op = .eql ∨ op = .neq → binOp op t va vb = (if op = .eql then (do pure (.bool (← Op.equal t va vb))) else (do pure (.bool (!(← Op.equal t va vb)))))) :
    (execOp a.eval o).run P w = .ok (.value (.bool (bif neg then !b else b))) w := by
  unfold execOp
  rw [hop]
  cases neg with
  | true =>
    simp only [eqOp, cond_true, ha, hb, hg]
    rw [hsh .neq (.inr rfl)]
    simp [hr]
  | false =>
    simp only [eqOp, cond_false, ha, hb, hg]
    rw [hsh .eql (.inl rfl)]
    simp [hr]
theorem equal_sl_nil {t e : TypeId} (hu : P.underlying t = some (.slice e)) (ad : Option Addr) (n m : Nat) (w : World) : (Op.equal t (.slice ad n m) (.slice none 0 0)).run P w = .ok ad.isNone w := by
  have h : ∀ d : Nat, (Op.equalIn (d + 1) t (.slice ad n m) (.slice none 0 0)).run P w = .ok ad.isNone w := fun d => by cases ad <;> simp [Op.equalIn, run_underlying hu]
  exact h 9999
theorem equal_pt_nil {t e : TypeId} (hu : P.underlying t = some (.pointer e)) (ad : Option Addr) (w : World) : (Op.equal t (.pointer ad) (.pointer none)).run P w = .ok ad.isNone w := by
  have h : ∀ d : Nat, (Op.equalIn (d + 1) t (.pointer ad) (.pointer none)).run P w = .ok ad.isNone w := fun d => by cases ad <;> simp [Op.equalIn, run_underlying hu]
  exact h 9999
theorem isEmpty_len {α : Type} (l : List α) : l.length = 0 ↔ l.isEmpty = true := by cases l <;> simp
theorem binOp_sl {t : TypeId} {ad bd : Option Addr} {n m n' m' : Nat} (op : BinOp) (h : op = .eql ∨ op = .neq) : binOp op t (.slice ad n m) (.slice bd n' m') = (if op = .eql then (do pure (.bool (← Op.equal t (.slice ad n m) (.slice bd n' m')))) else (do pure (.bool (!(← Op.equal t (.slice ad n m) (.slice bd n' m')))))) := by
  rcases h with rfl | rfl <;> rfl
theorem binOp_pt {t : TypeId} {ad bd : Option Addr} (op : BinOp) (h : op = .eql ∨ op = .neq) : binOp op t (.pointer ad) (.pointer bd) = (if op = .eql then (do pure (.bool (← Op.equal t (.pointer ad) (.pointer bd)))) else (do pure (.bool (!(← Op.equal t (.pointer ad) (.pointer bd)))))) := by
  rcases h with rfl | rfl <;> rfl

theorem op_eqnil {d : Nat} {b : Opd} {neg sl : Bool} {t u : TypeId} {x y : Operand} (ht : TabOk P tab) (S : SRel σ h st a.tmps w) (hop : o.op = .binOp (eqOp neg) t x y u) (hdd : dstOk a.tmps.size o d = true) (hx : opdOk b x = true)
    (hy : a.eval y = nilVal (bif sl then 0 else 1)) (hs : tabD tab t (fun z => bif sl then descIsSl z else descIsPtr z) = true) (hK : evOp st.get K (.eqnil d b neg sl) = some r) : o.wp P a w (Post σ h w st K r a) Q := by
  obtain ⟨dd, hu, hdesc⟩ := tabD_ok ht hs
  have fin : ∀ (c : Bool), (execOp a.eval o).run P w = .ok (.value (.bool (bif neg then !c else c))) w → put st.get d ⟨.bool, bif neg then !c else c⟩ K = some r → o.wp P a w (Post σ h w st K r a) Q :=
    fun c hr hk => wp_put_pure (v := ⟨.bool, bif neg then !c else c⟩) S hdd hk hr rfl rfl rfl rfl rfl (vrel_bool _ [])
  have slc : sl = true → ∀ ad n m, a.eval x = .slice ad n m → (execOp a.eval o).run P w = .ok (.value (.bool (bif neg then !ad.isNone else ad.isNone))) w := by
    rintro rfl ad n m hv
    simp only [cond_true] at hdesc hy
    obtain ⟨e, rfl⟩ := descIsSl_eq hdesc
    exact run_eqnil hop hv hy (fun op => eqGuard_sl) (equal_sl_nil hu ad n m) (binOp_sl)
  have ptc : sl = false → ∀ ad, a.eval x = .pointer ad → (execOp a.eval o).run P w = .ok (.value (.bool (bif neg then !ad.isNone else ad.isNone))) w := by
    rintro rfl ad hv
    simp only [cond_false] at hdesc hy
    obtain ⟨e, rfl⟩ := descIsPtr_eq hdesc
    exact run_eqnil hop hv hy (fun op => eqGuard_pt) (equal_pt_nil hu ad) (binOp_pt)
  have unk : sl = true → ∀ ad n m (em : Bool), a.eval x = .slice ad n m → SlOk .U ad n m → (em = false → n ≠ 0) → put st.get d ⟨.nb neg, em⟩ K = some r → o.wp P a w (Post σ h w st K r a) Q := by
    intro hsl ad n m em hv hok he hk
    refine wp_put_pure (v := ⟨.nb neg, em⟩) S hdd hk (slc hsl ad n m hv) rfl rfl rfl rfl rfl (t := []) ⟨[_], rfl, ?_⟩
    simp only [Rel]
    refine ⟨_, rfl, fun h0 => ?_⟩
    have hne : ad.isNone = false := by
      cases ad with
      | some _ => rfl
      | none => have := hok.2.1 rfl; have := hok.1; exact (he h0 (by omega)).elim
    rw [hne]; cases neg <;> rfl
  simp only [evOp] at hK
  split at hK
  · rename_i c e xs hb
    obtain ⟨tg, ⟨cc, hw, hr⟩, _⟩ := gpo_rel S hx hb
    simp only [Rel] at hr
    obtain ⟨ad, len, cap, e1, e2, e3, _⟩ := hr
    have hxv : a.eval x = .slice ad len cap := by have := slot_single rfl hw; rw [this] at e1; injection e1
    have hn : ad.isNone = List.isEmpty (α := e.den) xs := by
      have h4 := e2.2.2.2
      simp only at h4
      rw [Bool.eq_iff_iff, Option.isNone_iff_eq_none, h4, e3]
      exact isEmpty_len (α := e.den) xs
    exact fin _ (by rw [← hn]; exact slc rfl ad len cap hxv) hK
  · rename_i u' e xs hb
    obtain ⟨tg, ⟨cc, hw, hr⟩, _⟩ := gpo_rel S hx hb
    simp only [Rel] at hr
    obtain ⟨ad, len, cap, e1, e2, e3, _⟩ := hr
    have hxv : a.eval x = .slice ad len cap := by have := slot_single rfl hw; rw [this] at e1; injection e1
    have hn : ad.isNone = List.isEmpty (α := e.den) xs := by
      have h4 := e2.2.2.2
      simp only at h4
      rw [Bool.eq_iff_iff, Option.isNone_iff_eq_none, h4, e3]
      exact isEmpty_len (α := e.den) xs
    exact fin _ (by rw [← hn]; exact slc rfl ad len cap hxv) hK
  · rename_i c e xs hb
    obtain ⟨tg, ⟨cc, hw, hr⟩, _⟩ := gpo_rel S hx hb
    simp only [Rel] at hr
    obtain ⟨ad, len, cap, e1, e2, e3, _⟩ := hr
    have hxv : a.eval x = .slice ad len cap := by have := slot_single rfl hw; rw [this] at e1; injection e1
    exact unk rfl ad len cap (List.isEmpty (α := e.den) xs) hxv e2 (fun he h2 => by
      rw [(isEmpty_len (α := e.den) xs).1 (by rw [← e3]; exact h2)] at he; cases he) hK
  · rename_i u' e xs hb
    obtain ⟨tg, ⟨cc, hw, hr⟩, _⟩ := gpo_rel S hx hb
    simp only [Rel] at hr
    obtain ⟨ad, len, cap, e1, e2, e3, _⟩ := hr
    have hxv : a.eval x = .slice ad len cap := by have := slot_single rfl hw; rw [this] at e1; injection e1
    exact unk rfl ad len cap (List.isEmpty (α := e.den) xs) hxv e2 (fun he h2 => by
      rw [(isEmpty_len (α := e.den) xs).1 (by rw [← e3]; exact h2)] at he; cases he) hK
  · rename_i c e xs hb
    obtain ⟨tg, ⟨cc, hw, hr⟩, _⟩ := gpo_rel S hx hb
    simp only [Rel] at hr
    obtain ⟨ad, len, cap, e1, e2, e3, _⟩ := hr
    have hxv : a.eval x = .slice ad len cap := by have := slot_single rfl hw; rw [this] at e1; injection e1
    have hn : ad.isNone = false := by have := e2.2.2.2; simp only at this; cases ad <;> simp_all
    have := slc rfl ad len cap hxv
    rw [hn] at this
    exact fin false this (by cases neg <;> exact hK)
  · rename_i u' e xs hb
    obtain ⟨tg, ⟨cc, hw, hr⟩, _⟩ := gpo_rel S hx hb
    simp only [Rel] at hr
    obtain ⟨ad, len, cap, e1, e2, e3, _⟩ := hr
    have hxv : a.eval x = .slice ad len cap := by have := slot_single rfl hw; rw [this] at e1; injection e1
    have hn : ad.isNone = false := by have := e2.2.2.2; simp only at this; cases ad <;> simp_all
    have := slc rfl ad len cap hxv
    rw [hn] at this
    exact fin false this (by cases neg <;> exact hK)
  · rename_i xs hb
    obtain ⟨tg, ⟨cc, hw, hr⟩, _⟩ := gpo_rel S hx hb
    simp only [Rel, nilVal] at hr
    have hxv : a.eval x = .slice none 0 0 := by have := slot_single rfl hw; rw [this] at hr; injection hr
    exact fin true (slc rfl none 0 0 hxv) (by cases neg <;> exact hK)
  · rename_i xs hb
    obtain ⟨tg, ⟨cc, hw, hr⟩, _⟩ := gpo_rel S hx hb
    simp only [Rel, nilVal] at hr
    have hxv : a.eval x = .pointer none := by have := slot_single rfl hw; rw [this] at hr; injection hr
    exact fin true (ptc rfl none hxv) (by cases neg <;> exact hK)
  · rename_i u' o1 s1 n1 p1 i1 hb
    obtain ⟨tg, ⟨cc, hw, hr⟩, _⟩ := gpo_rel S hx hb
    simp only [Rel] at hr
    obtain ⟨bk, ch, e1, e2, e3⟩ := hr
    have hxv : a.eval x = .pointer (some ⟨bk, o1 + s1 * Int.toNat i1, none⟩) := by have := slot_single rfl hw; rw [this] at e1; injection e1
    exact fin false (ptc rfl _ hxv) (by cases neg <;> exact hK)
  · rename_i e xs hb
    obtain ⟨tg, ⟨cc, hw, hr⟩, _⟩ := gpo_rel S hx hb
    simp only [Rel] at hr
    obtain ⟨bk, off, e1, _⟩ := hr
    have hxv : a.eval x = .pointer (some ⟨bk, off, none⟩) := by have := slot_single rfl hw; rw [this] at e1; injection e1
    exact fin false (ptc rfl _ hxv) (by cases neg <;> exact hK)
  · rename_i e xs hb
    obtain ⟨tg, ⟨cc, hw, hr⟩, _⟩ := gpo_rel S hx hb
    obtain ⟨y, rfl⟩ : ∃ y : Option e.den, y = xs := ⟨xs, rfl⟩
    cases y with
    | none =>
      simp only [Rel] at hr
      have hxv : a.eval x = .pointer none := by have := slot_single rfl hw; rw [this] at hr; injection hr
      exact fin true (ptc rfl none hxv) (by cases neg <;> exact hK)
    | some y =>
      simp only [Rel] at hr
      obtain ⟨bk, off, e1, _⟩ := hr
      have hxv : a.eval x = .pointer (some ⟨bk, off, none⟩) := by have := slot_single rfl hw; rw [this] at e1; injection e1
      exact fin false (ptc rfl _ hxv) (by cases neg <;> exact hK)
  · rename_i e xs hb
    obtain ⟨tg, ⟨cc, hw, hr⟩, _⟩ := gpo_rel S hx hb
    obtain ⟨y, rfl⟩ : ∃ y : Option e.den, y = xs := ⟨xs, rfl⟩
    cases y with
    | none =>
      simp only [Rel] at hr
      have hxv : a.eval x = .pointer none := by have := slot_single rfl hw; rw [this] at hr; injection hr
      exact fin true (ptc rfl none hxv) (by cases neg <;> exact hK)
    | some y =>
      simp only [Rel] at hr
      obtain ⟨bk, ch, e1, e2, e3⟩ := hr
      have hxv : a.eval x = .pointer (some ⟨bk, 0, none⟩) := by have := slot_single rfl hw; rw [this] at e1; injection e1
      exact fin false (ptc rfl _ hxv) (by cases neg <;> exact hK)
  · simp at hK

/-! comparisons of strings and of plain data -/
theorem op_bin_str {d : Nat} {op : BinOp} {x y : Operand} {t u : TypeId} (S : SRel σ h st a.tmps w) (hop : o.op = .binOp op t x y u) (hdd : dstOk a.tmps.size o d = true)
    (hf : fresh st.get d = true) {s s' : ByteArray} (ha : a.eval x = .string s) (hb : a.eval y = .string s')
    (hK : binK d op ⟨.str, ints s⟩ ⟨.str, ints s'⟩ (fun us => K us []) = some r) : o.wp P a w (Post σ h w st K r a) Q := by
  have hg : ∀ op, eqGuard op t x y (.string s) (.string s') = pure () := fun op => by cases op <;> rfl
  have fin := fun (v : Value) (hr : (binOp op t (.string s) (.string s')).run P w = .ok v w) => run_bin (P := P) hop ha hb (hg op) hr
  simp only [binK] at hK
  cases op with
  | add =>
    simp only [leK] at hK
    split at hK
    · rename_i hle
      rw [ints_length, ints_length] at hle
      have hmax : s.size + s'.size ≤ 9223372036854775807 := by simpa [maxLen] using hle
      rw [← ints_append] at hK
      refine wp_put_pure (v := ⟨.str, ints (s ++ s')⟩) S hdd (by simp only [Bw.put, hf, cond_true]; exact hK) (fin (.string (s ++ s')) ?_) rfl rfl rfl rfl rfl (vrel_str (by rw [ByteArray.size_append]; exact hle) [])
      have : ¬ (((s.size + s'.size : Nat) : Int) > 9223372036854775807) := by omega
      simp only [binOp, Op.stringOp, IntKind.max_i64, this, if_false, Sem.run_pure]
    · simp at hK
  | eql => exact wp_bool S hdd hf hK (fin _ (by simp only [binOp, Op.stringOp, ints_eq, Sem.run_pure]))
  | neq => exact wp_bool S hdd hf hK (fin _ (by simp only [binOp, Op.stringOp, ints_eq, Sem.run_pure]))
  | lss => exact wp_bool S hdd hf hK (fin _ (by simp only [binOp, Op.stringOp, ints_slt, Sem.run_pure]))
  | leq => exact wp_bool S hdd hf hK (fin _ (by simp only [binOp, Op.stringOp, ints_slt, ints_eq, Sem.run_pure]))
  | gtr => exact wp_bool S hdd hf hK (fin _ (by simp only [binOp, Op.stringOp, ints_slt, ints_eq, Sem.run_pure]))
  | geq => exact wp_bool S hdd hf hK (fin _ (by simp only [binOp, Op.stringOp, ints_slt, Sem.run_pure]))
  | _ => simp at hK

theorem op_bin {d : Nat} {op : BinOp} {b c : Opd} {x y : Operand} {t u : TypeId} (S : SRel σ h st a.tmps w) (hop : o.op = .binOp op t x y u) (hdd : dstOk a.tmps.size o d = true) (hx : opdOk b x = true) (hy : opdOk c y = true)
    (hK : evOp st.get K (.bin d op b c) = some r) : o.wp P a w (Post σ h w st K r a) Q := by
  simp only [evOp] at hK
  split at hK
  · rename_i p q hb hc
    obtain ⟨hf, hK⟩ := bif_some hK
    have hK2 := hK
    unfold binK at hK
    split at hK
    · rename_i k m j n
      obtain ⟨e1, e2⟩ := opd_int2 S hx hb
      obtain ⟨e3, _⟩ := opd_int2 S hy hc
      exact op_bin_int S hop hdd hf e1 e3 e2 hK2
    · rename_i l l'
      obtain ⟨s, e1, e2, _⟩ := opd_str S hx hb
      obtain ⟨s', e3, e4, _⟩ := opd_str S hy hc
      subst e2 e4
      exact op_bin_str S hop hdd hf e1 e3 hK2
    · simp at hK
  · simp at hK

theorem op_eqs {d : Nat} {neg : Bool} {b c : Opd} {T : Ty} {x y : Operand} {t u : TypeId} (ht : TabOk P tab) (hF : EqFacts P hd) (S : SRel σ h st a.tmps w) (hop : o.op = .binOp (eqOp neg) t x y u) (hdd : dstOk a.tmps.size o d = true) (hx : opdOk b x = true) (hy : opdOk c y = true)
    (hl : lay tab hd T (.inl t) = true) (hdep : T.dep < 9999) (hk : T.agg = true ∨ Ty.beq T .bool = true) (hhd : T.agg = true → hd.contains t = true)
    (hK : evOp st.get K (.eqs d neg b c T) = some r) : o.wp P a w (Post σ h w st K r a) Q := by
  simp only [evOp] at hK
  split at hK
  · rename_i p q hb hc
    obtain ⟨pT, px⟩ := p
    obtain ⟨qT, qx⟩ := q
    split at hK
    · rename_i h1
      split at hK
      · rename_i h2
        have e1 := Ty.eq_of_beq h1
        have e2 := Ty.eq_of_beq h2
        simp only at e1 e2
        subst e1
        have e3 := e2.symm
        subst e3
        obtain ⟨he, hK⟩ := bif_some hK
        obtain ⟨t1, r1⟩ := opd_rel S hx hb
        obtain ⟨t2, r2⟩ := opd_rel S hy hc
        have hrun : ∀ w, (Op.equal t (a.eval x) (a.eval y)).run P w = .ok (eqv pT px qx) w := fun w => by
          have := (run_equal (P := P) ht hF (σ := σ) (h := h) w pT he).1 t 10000 (by omega) hl r1 r2
          exact this
        refine wp_put_pure (v := ⟨.bool, bif neg then !eqv pT px qx else eqv pT px qx⟩) S hdd hK (val := .bool (bif neg then !eqv pT px qx else eqv pT px qx)) ?_ rfl rfl rfl rfl rfl (vrel_bool _ [])
        rcases hk with hk | hk
        · -- structs
          obtain ⟨c1, w1, _⟩ := r1
          obtain ⟨c2, w2, _⟩ := r2
          rw [hk] at w1 w2
          have v1 : a.eval x = .agg ⟨c1⟩ := w1
          have v2 : a.eval y = .agg ⟨c2⟩ := w2
          rw [v1, v2] at hrun
          have hguard := hF.guard t (by simpa using hhd hk)
          unfold execOp
          rw [hop]
          cases neg <;> simp [eqOp, v1, v2, eqGuard, hguard, binOp, hrun]
        · have hb' := Ty.eq_of_beq hk
          subst hb'
          obtain ⟨p, hp⟩ : ∃ p : Bool, p = px := ⟨px, rfl⟩
          obtain ⟨q, hq⟩ : ∃ q : Bool, q = qx := ⟨qx, rfl⟩
          subst hp hq
          have v1 : a.eval x = .bool p := VRel.bool_eq r1
          have v2 : a.eval y = .bool q := VRel.bool_eq r2
          rw [v1, v2] at hrun
          unfold execOp
          rw [hop]
          have b1 : ∀ p q : Bool, binOp .eql t (.bool p) (.bool q) = (do pure (.bool (← Op.equal t (.bool p) (.bool q)))) := fun _ _ => rfl
          have b2 : ∀ p q : Bool, binOp .neq t (.bool p) (.bool q) = (do pure (.bool (!(← Op.equal t (.bool p) (.bool q))))) := fun _ _ => rfl
          cases neg with
          | true =>
            simp only [eqOp, cond_true, v1, v2, eqGuard_at_bool, b2, Sem.run_bind, Sem.run_pure, Result.andThen_ok, hrun]
          | false =>
            simp only [eqOp, cond_false, v1, v2, eqGuard_at_bool, b1, Sem.run_bind, Sem.run_pure, Result.andThen_ok, hrun]
      · simp at hK
    · simp at hK
  · simp at hK
end
end Go.Proofs.Bw
namespace Go.Proofs.Bw
open Go

def Hp.add (h : Hp) (n : Nat) (blk : Blk) : Hp := fun b => if b = n then some blk else h b
def Sg.add (σ : Sg) (n : Nat) (cs : List Value) : Sg := fun b j => if b = n then cs[j]? else σ b j

theorem push_old {w w' : World} {o : Obj} (hw : w'.heap = w.heap.push o) {b : Nat} (hb : b < w.heap.size) : w'.heap[b]? = w.heap[b]? := by
  rw [hw, Array.getElem?_push]; simp [Nat.ne_of_lt hb]
theorem push_new {w w' : World} {o : Obj} (hw : w'.heap = w.heap.push o) : w'.heap[w.heap.size]? = some o := by
  rw [hw]; simp

theorem Inv.push {w w' : World} {σ : Sg} {h : Hp} (I : Inv w σ h) {o : Obj} (hw : w'.heap = w.heap.push o) : Inv w' σ h :=
  ⟨fun b blk cs hb hc => by rw [push_old hw (I.lt hb)]; exact I.cells b blk cs hb hc,
   fun b es t hb => by rw [push_old hw (I.lt hb)]; exact I.maps b es t hb, I.own,
   fun b j v hb => (cell?_eq (w := w) (push_old hw (I.ltσ hb))).trans (I.sta b j v hb), I.inj⟩
theorem Inv.addBlk {w w' : World} {σ : Sg} {h : Hp} (I : Inv w σ h) {cs : List Value} {e : TypeId} {lo hi : Nat} (hw : w'.heap = w.heap.push (.cells ⟨cs⟩ e (lo, hi))) (hlo : cs.length ≤ lo ∨ hi ≤ lo) {blk : Blk} (hc : blk.cells? = some cs)
    (ht : ∀ b x, h b = some x → x.tag ≠ blk.tag) : Inv w' σ (h.add w.heap.size blk) := by
  have J := I.push hw
  refine ⟨fun b x c hb hcc => ?_, fun b es t hb => ?_, fun b x hb j => ?_, J.sta, fun b c x y hb hcc hxy => ?_⟩
  · unfold Hp.add at hb
    split at hb
    · rename_i e1
      injection hb with hb
      subst hb
      rw [hc] at hcc
      injection hcc with hcc
      subst hcc
      exact ⟨e, lo, hi, by rw [e1, push_new hw], hlo⟩
    · exact J.cells b x c hb hcc
  · unfold Hp.add at hb
    split at hb
    · injection hb with hb; subst hb; simp [Blk.cells?] at hc
    · exact J.maps b es t hb
  · unfold Hp.add at hb
    split at hb
    · rename_i e1
      cases hs : σ b j with
      | none => rfl
      | some v => have := I.ltσ hs; omega
    · exact I.own b x hb j
  · unfold Hp.add at hb hcc
    split at hb <;> split at hcc
    · omega
    · injection hb with hb; subst hb; exact (ht _ _ hcc hxy.symm).elim
    · injection hcc with hcc; subst hcc; exact (ht _ _ hb hxy).elim
    · exact I.inj b c x y hb hcc hxy
theorem Inv.addSg {w w' : World} {σ : Sg} {h : Hp} (I : Inv w σ h) {cs : List Value} {e : TypeId} {fr : Nat × Nat} (hw : w'.heap = w.heap.push (.cells ⟨cs⟩ e fr)) : Inv w' (σ.add w.heap.size cs) h := by
  have J := I.push hw
  refine ⟨J.cells, J.maps, fun b x hb j => ?_, fun b j v hb => ?_, J.inj⟩
  · unfold Sg.add
    rw [if_neg (by have := I.lt hb; omega)]
    exact I.own b x hb j
  · unfold Sg.add at hb
    split at hb
    · rename_i e1
      subst e1
      simp only [World.cell?, push_new hw]
      simpa using hb
    · exact J.sta b j v hb
theorem le_addSg {w : World} {σ : Sg} {h : Hp} (I : Inv w σ h) (cs : List Value) : σ.le (σ.add w.heap.size cs) := by
  intro b j v hb
  unfold Sg.add
  rw [if_neg (by have := I.ltσ hb; omega)]
  exact hb

section
variable {P : Program} {R : Type} {σ : Sg} {h : Hp} {st : St} {a : Act} {w : World} {K : St → List Tag → Option R} {r : R} {o : Oper} {Q : Exit → Act → World → Prop} {tab : Tab}

theorem no_tag (S : SRel σ h st a.tmps w) {d : Nat} (hf : fresh st.get d = true) {b : Nat} {x : Blk} (hb : h b = some x) {q : Tag} : x.tag ≠ d :: q := by
  intro e
  obtain ⟨k, r, e2, ho⟩ := S.own b x hb
  rw [e] at e2
  injection e2 with e2 _
  exact not_owns_of_fresh hf (by rw [e2]; exact ho)

/-- a new block that the slot owns -/
theorem wp_new (S : SRel σ h st a.tmps w) {d : Nat} {v : SV} (hd : dstOk a.tmps.size o d = true) (hK : put st.get d v K = some r) {val : Value} {w' : World} {cs : List Value} {e : TypeId} {lo hi : Nat}
    (hrun : (execOp a.eval o).run P w = .ok (.value val) w') (hw : w'.heap = w.heap.push (.cells ⟨cs⟩ e (lo, hi))) (hlo : cs.length ≤ lo ∨ hi ≤ lo) (hos : w'.os = w.os) (ht : w'.tape = w.tape) (hout : w'.output = w.output)
    {blk : Blk} (hc : blk.cells? = some cs) (htag : blk.tag = [d]) (hv : VRel σ (h.add w.heap.size blk) v.T v.x val [d]) (hcl : v.T.closed = true) (hnp : v.T.pure = false) : o.wp P a w (Post σ h w st K r a) Q := by
  obtain ⟨hf, hk⟩ := put_some hK
  obtain ⟨h1, h2⟩ := dstOk_eq hd
  unfold Oper.wp
  rw [hrun, Oper.upon_value, h1]
  have hold : ∀ b blk', h b = some blk' → h.add w.heap.size blk b = some blk' := fun b blk' hb => by
    unfold Hp.add; rw [if_neg (by have := S.inv.lt hb; omega)]; exact hb
  refine ⟨σ, h.add w.heap.size blk, _, _, hk, ⟨by rw [hw]; simp, σ.le_refl, hos, ht, hout, fun b hb hn => ⟨push_old hw hb, ?_, fun _ => rfl⟩⟩, ?_, rfl, by simp [Act.put]⟩
  · unfold Hp.add; rw [if_neg (by omega)]; exact hn
  · refine S.put hf h2 σ.le_refl (S.inv.addBlk hw hlo hc (fun b x hb => by rw [htag]; exact no_tag S hf hb)) hold (fun b blk' hb => ?_) hv (closed_okTop hcl) (by rw [closed_looks hcl]; simp)
    unfold Hp.add at hb
    split at hb
    · injection hb with hb; subst hb; exact .inr ⟨[], htag, hnp, hcl⟩
    · exact .inl hb

/-- a new block that stays as it is -/
theorem wp_newC (S : SRel σ h st a.tmps w) {d : Nat} {v : SV} (hd : dstOk a.tmps.size o d = true) (hK : put st.get d v K = some r) {val : Value} {w' : World} {cs : List Value} {e : TypeId} {fr : Nat × Nat}
    (hrun : (execOp a.eval o).run P w = .ok (.value val) w') (hw : w'.heap = w.heap.push (.cells ⟨cs⟩ e fr)) (hos : w'.os = w.os) (ht : w'.tape = w.tape) (hout : w'.output = w.output)
    (hp : v.T.pure = true) (hv : VRel (σ.add w.heap.size cs) h v.T v.x val [d]) : o.wp P a w (Post σ h w st K r a) Q := by
  obtain ⟨hf, hk⟩ := put_some hK
  obtain ⟨h1, h2⟩ := dstOk_eq hd
  unfold Oper.wp
  rw [hrun, Oper.upon_value, h1]
  refine ⟨σ.add w.heap.size cs, h, _, _, hk, ⟨by rw [hw]; simp, le_addSg S.inv cs, hos, ht, hout, fun b hb hn => ⟨push_old hw hb, hn, fun j => ?_⟩⟩, ?_, rfl, by simp [Act.put]⟩
  · unfold Sg.add; rw [if_neg (by omega)]
  · exact S.put hf h2 (le_addSg S.inv cs) (S.inv.addSg hw) (fun _ _ hb => hb) (fun _ _ hb => .inl hb) hv (pure_okTop hp) (by rw [pure_looks hp]; simp)

theorem wr_cells {T : Ty} {x : T.den} {v : Value} {c : List Value} {t : Tag} (hs : T.solid = true) (hw : wr T.agg v c) (hr : Rel σ h T false x c t) : v.cells = ⟨c⟩ := by
  cases hg : T.agg with
  | true => rw [hg] at hw; rw [show v = .agg ⟨c⟩ from hw]; rfl
  | false =>
    rw [hg] at hw
    have hc : c = [v] := hw
    subst hc
    cases T <;> simp [Ty.agg] at hg <;> simp [Ty.solid] at hs <;> try simp only [Rel] at hr
    case int => obtain ⟨e, _⟩ := hr; injection e with e _; subst e; rfl
    case bool => injection hr with e _; subst e; rfl
    case str => obtain ⟨s, e, _⟩ := hr; injection e with e _; subst e; rfl
    case slB => obtain ⟨_, _, _, e, _⟩ := hr; injection e with e _; subst e; rfl
    case slX => obtain ⟨_, _, _, e, _⟩ := hr; injection e with e _; subst e; rfl
    case slV => obtain ⟨_, _, _, e, _⟩ := hr; injection e with e _; subst e; rfl
    case box => obtain ⟨_, _, e, _⟩ := hr; injection e with e _; subst e; rfl
    case siter => obtain ⟨_, _, e, _⟩ := hr; injection e with e _; subst e; rfl
    case slT => obtain ⟨_, _, e, _⟩ := hr; injection e with e _; subst e; rfl
    case mref => obtain ⟨_, _, _, e, _⟩ := hr; injection e with e _; subst e; rfl
    case fnp => obtain ⟨_, _, e, _⟩ := hr; injection e with e _; subst e; rfl
    case oref =>
      cases x with
      | none => simp only [Rel] at hr; injection hr with e _; subst e; rfl
      | some y => simp only [Rel] at hr; obtain ⟨_, _, e, _⟩ := hr; injection e with e _; subst e; rfl
    case opt =>
      cases x with
      | none => simp only [Rel] at hr; injection hr with e _; subst e; rfl
      | some y => simp only [Rel] at hr; obtain ⟨_, _, e, _⟩ := hr; injection e with e _; subst e; rfl
    case ptr => obtain ⟨_, _, e, _⟩ := hr; injection e with e _; subst e; rfl
    case cref => obtain ⟨_, _, e, _⟩ := hr; injection e with e _; subst e; rfl
    case vref => obtain ⟨_, _, _, e, _⟩ := hr; injection e with e _; subst e; rfl
    case fn => obtain ⟨_, e, _⟩ := hr; injection e with e _; subst e; rfl
    case ifc => obtain ⟨_, _, e, _⟩ := hr; injection e with e _; subst e; rfl
    case tup => obtain ⟨_, e, _⟩ := hr; injection e with e _; subst e; rfl
    case nil k => injection hr with e _; subst e; unfold nilVal; split <;> rfl
    case map => obtain ⟨_, _, _, e, _⟩ := hr; injection e with e _; subst e; rfl
    case slA => obtain ⟨_, _, _, e, _⟩ := hr; injection e with e _; subst e; rfl
    case eref => obtain ⟨_, _, e, _⟩ := hr; injection e with e _; subst e; rfl
    case nb => obtain ⟨_, e, _⟩ := hr; injection e with e _; subst e; rfl

theorem newVar_run (e : TypeId) (v : Value) (w : World) : (newVar e v).run P w = .ok ⟨w.heap.size, 0, none⟩ (w.alloc (.cells v.cells e)) := by
  simp [newVar, newRow, newObj, Sem.run]

def zeroOk (tab : Tab) (e : Nat) (z : SV) : Bool := match tab.get e with
  | some i => litV z.T z.x i.zero
  | none => false
theorem op_alloc {d : Nat} {z : SV} {e : TypeId} (ht : TabOk P tab) (S : SRel σ h st a.tmps w) (hop : o.op = .alloc e) (hd : dstOk a.tmps.size o d = true) (hz : zeroOk tab e z = true)
    (hK : evOp st.get K (.alloc d z) = some r) : o.wp P a w (Post σ h w st K r a) Q := by
  simp only [evOp] at hK
  obtain ⟨hc, hK⟩ := bif_some hK
  simp only [Bool.and_eq_true] at hc
  unfold zeroOk at hz
  split at hz
  · rename_i i hi
    obtain ⟨_, j, h1, _, _, h4⟩ := ht e i hi
    obtain ⟨c, hw, hr⟩ := litV_rel (σ := σ) (h := h.add w.heap.size (.cells i.zero.cells.toList [d])) (t := [d] ++ [0]) hz
    have hcells := wr_cells hc.2 hw hr
    have hrun : (execOp a.eval o).run P w = .ok (.value (.pointer (some ⟨w.heap.size, 0, none⟩))) (w.alloc (.cells i.zero.cells e)) := by
      unfold execOp
      rw [hop]
      simp [Instr.alloc, zeroValue, typeInfo, h1, h4, newVar_run]
    refine wp_new (cs := i.zero.cells.toList) (e := e) (lo := 0) (hi := 0) (blk := .cells i.zero.cells.toList [d]) S hd hK hrun rfl (.inr (Nat.le_refl _)) rfl rfl rfl rfl rfl ⟨_, rfl, ?_⟩ (by simpa [Ty.closed] using hc.1) rfl
    simp only [Rel]
    refine ⟨w.heap.size, i.zero.cells.toList, rfl, by simp [Hp.add], ?_⟩
    have hcc : c = i.zero.cells.toList := by rw [hcells]
    subst hcc
    exact hr
  · simp at hz

theorem op_boxv {d : Nat} {b : Opd} {e : TypeId} {x : Operand} (S : SRel σ h st a.tmps w) (hop : o.op = .box e x) (hd : dstOk a.tmps.size o d = true) (hx : opdOk b x = true)
    (hK : evOp st.get K (.boxv d b) = some r) : o.wp P a w (Post σ h w st K r a) Q := by
  simp only [evOp] at hK
  split at hK
  · rename_i v hv
    obtain ⟨hp, hK⟩ := bif_some hK
    obtain ⟨tg, c, hw, hr⟩ := opd_rel S hx hv
    have hcells := wr_cells (by revert hp; cases v.T <;> simp [Ty.pure, Ty.solid]) hw hr
    have hrun : (execOp a.eval o).run P w = .ok (.value (.pointer (some ⟨w.heap.size, 0, none⟩))) (w.alloc (.cells (a.eval x).cells e)) := by
      unfold execOp
      rw [hop]
      simp [Instr.box, newVar_run]
    rw [hcells] at hrun
    refine wp_new (v := ⟨.box v.T, v.x⟩) (cs := c) (e := e) (lo := 0) (hi := 0) (blk := .cells c [d]) S hd hK hrun rfl (.inr (Nat.le_refl _)) rfl rfl rfl rfl rfl ⟨_, rfl, ?_⟩ (by simpa [Ty.closed] using Ty.closed_of_pure hp) rfl
    simp only [Rel]
    exact ⟨w.heap.size, c, rfl, by simp [Hp.add], Rel.pure σ.le_refl hp hr⟩
  · simp at hK
theorem op_crefv {d : Nat} {b : Opd} {e : TypeId} {x : Operand} (S : SRel σ h st a.tmps w) (hop : o.op = .box e x) (hd : dstOk a.tmps.size o d = true) (hx : opdOk b x = true)
    (hK : evOp st.get K (.crefv d b) = some r) : o.wp P a w (Post σ h w st K r a) Q := by
  simp only [evOp] at hK
  split at hK
  · rename_i v hv
    obtain ⟨hp, hK⟩ := bif_some hK
    obtain ⟨tg, c, hw, hr⟩ := opd_rel S hx hv
    have hcells := wr_cells (by revert hp; cases v.T <;> simp [Ty.pure, Ty.solid]) hw hr
    have hrun : (execOp a.eval o).run P w = .ok (.value (.pointer (some ⟨w.heap.size, 0, none⟩))) (w.alloc (.cells (a.eval x).cells e)) := by
      unfold execOp
      rw [hop]
      simp [Instr.box, newVar_run]
    rw [hcells] at hrun
    refine wp_newC (v := ⟨.cref v.T, v.x⟩) (cs := c) (e := e) S hd hK hrun rfl rfl rfl rfl hp ⟨_, rfl, ?_⟩
    simp only [Rel]
    exact ⟨w.heap.size, 0, rfl, c, Rel.pure (le_addSg S.inv c) hp hr, fun j u hj => by simp [Sg.add, hj]⟩
  · simp at hK
end
end Go.Proofs.Bw
namespace Go.Proofs.Bw
open Go

/-- a block's cells are others now -/
def setB (w : World) (b : Nat) (cs : List Value) : World := w.setRow b ⟨cs⟩
theorem setB_self {w : World} {b : Nat} {old cs : List Value} {e : TypeId} {fr : Nat × Nat} (hb : w.heap[b]? = some (.cells ⟨old⟩ e fr)) : (setB w b cs).heap[b]? = some (.cells ⟨cs⟩ e fr) := setRow_heap w b ⟨old⟩ ⟨cs⟩ e fr hb
theorem setB_other {w : World} {b c : Nat} {cs : List Value} (h : c ≠ b) : (setB w b cs).heap[c]? = w.heap[c]? := setRow_other w b c ⟨cs⟩ h
theorem setB_setB (w : World) (b : Nat) (cs ds : List Value) : setB (setB w b cs) b ds = setB w b ds := by
  unfold setB World.setRow
  congr 1
  apply Array.ext_getElem?
  intro i
  simp only [Array.getElem?_modify]
  by_cases h : b = i
  · simp only [h, if_true]
    cases w.heap[i]? with
    | none => rfl
    | some o => cases o <;> rfl
  · simp [h]
theorem setB_id {w : World} {b : Nat} {cs : List Value} {e : TypeId} {fr : Nat × Nat} (hb : w.heap[b]? = some (.cells ⟨cs⟩ e fr)) : setB w b cs = w := setRow_self w b ⟨cs⟩ e fr hb
theorem store_run {P : Program} {w : World} {b off : Nat} {v : Value} {cs : List Value} {e : TypeId} {lo hi : Nat} (hb : w.heap[b]? = some (.cells ⟨cs⟩ e (lo, hi))) (hlo : cs.length ≤ lo ∨ hi ≤ lo) (hoff : off < cs.length) (h1 : v.oneCell' = true) :
    (store ⟨b, off, none⟩ v).run P w = .ok () (setB w b (cs.set off v)) := by
  have hc : w.cell? ⟨b, off, none⟩ = some cs[off] := by simp [World.cell?, hb, hoff]
  have hf : w.frozen? ⟨b, off, none⟩ = false := by
    simp only [World.frozen?, hb, Bool.and_eq_false_iff, decide_eq_false_iff_not]
    omega
  have hs : w.setCell ⟨b, off, none⟩ v = setB w b (cs.set off v) := by
    unfold setB World.setCell World.setRow
    congr 1
    apply Array.ext_getElem?
    intro i
    simp only [Array.getElem?_modify]
    by_cases h : b = i
    · subst h
      simp [hb]
    · simp [h]
  unfold store
  cases v <;> simp only [Sem.run, hc, hf, hs] <;> first | rfl | (simp [Value.oneCell'] at h1)
theorem storeCells_run {P : Program} {b : Nat} {e : TypeId} {lo hi : Nat} : ∀ (vs : List Value) (off i : Nat) (pre mid post : List Value) (w : World), w.heap[b]? = some (.cells ⟨pre ++ mid ++ post⟩ e (lo, hi)) → ((pre ++ mid ++ post).length ≤ lo ∨ hi ≤ lo) →
    pre.length = off + i → mid.length = vs.length → (∀ v ∈ vs, v.oneCell' = true) → (storeCells ⟨b, off, none⟩ vs i).run P w = .ok () (setB w b (pre ++ vs ++ post))
  | [], off, i, pre, mid, post, w, hb, _, _, hm, _ => by
    have : mid = [] := List.eq_nil_of_length_eq_zero (by simpa using hm)
    subst this
    rw [setB_id hb]
    rfl
  | v :: vs, off, i, pre, mid, post, w, hb, hlo, hp, hm, h1 => by
    obtain ⟨m, mid, rfl⟩ : ∃ m mid', mid = m :: mid' := by cases mid with
      | nil => simp at hm
      | cons m mid' => exact ⟨m, mid', rfl⟩
    have hst := store_run (P := P) (off := off + i) (v := v) hb hlo (by simp; omega) (h1 v (by simp))
    have hset : (pre ++ m :: mid ++ post).set (off + i) v = (pre ++ [v]) ++ mid ++ post := by
      rw [← hp, List.append_assoc, List.set_append_right _ _ (Nat.le_refl _)]
      simp
    rw [hset] at hst
    have ih := storeCells_run (P := P) vs off (i + 1) (pre ++ [v]) mid post (setB w b ((pre ++ [v]) ++ mid ++ post)) (setB_self hb) (by simp at hlo ⊢; omega) (by simp; omega) (by simpa using hm) (fun u hu => h1 u (by simp [hu]))
    simp only [storeCells, Sem.run_bind, addr_add, hst, Result.andThen_ok, ih, setB_setB]
    simp

theorem Rel.one {σ : Sg} {h : Hp} : ∀ {T : Ty} {x : T.den} {c : List Value} {t : Tag}, T.hard = true → Rel σ h T false x c t → ∀ v ∈ c, v.oneCell' = true := by
  intro T
  induction T with
  | pair a b iha ihb =>
    intro x c t hp hr v hv
    simp only [Ty.hard, Bool.and_eq_true] at hp
    simp only [Rel] at hr
    obtain ⟨c1, c2, rfl, h1, h2⟩ := hr
    rcases List.mem_append.1 hv with hv | hv
    · exact iha hp.1 h1 v hv
    · exact ihb hp.2 h2 v hv
  | arr n e ih =>
    intro x c t hp hr
    simp only [Rel] at hr
    have hp' : e.hard = true := hp
    have key : ∀ (xs : List e.den) (cs : List Value), EList (fun y c => Rel σ h e false y c (t ++ [3])) xs cs → ∀ v ∈ cs, v.oneCell' = true := by
      intro xs
      induction xs with
      | nil => intro cs hc v hv; rw [show cs = [] from hc] at hv; cases hv
      | cons y ys ihy =>
        rintro cs ⟨c1, c2, rfl, h1, h2⟩ v hv
        rcases List.mem_append.1 hv with hv | hv
        · exact ih hp' h1 v hv
        · exact ihy c2 h2 v hv
    exact key x c hr.2
  | unit => intro x c t hp hr v hv; simp only [Rel] at hr; rw [hr] at hv; cases hv
  | int k => intro x c t hp hr v hv; simp only [Rel] at hr; rw [hr.1] at hv; simp at hv; subst hv; rfl
  | bool => intro x c t hp hr v hv; simp only [Rel] at hr; rw [hr] at hv; simp at hv; subst hv; rfl
  | str => intro x c t hp hr v hv; simp only [Rel] at hr; obtain ⟨s, e, _⟩ := hr; rw [e] at hv; simp at hv; subst hv; rfl
  | slB z cl e ih => intro x c t hp hr v hv; simp only [Rel] at hr; obtain ⟨_, _, _, e, _⟩ := hr; rw [e] at hv; simp at hv; subst hv; rfl
  | cref e ih => intro x c t hp hr v hv; simp only [Rel] at hr; obtain ⟨_, _, e, _⟩ := hr; rw [e] at hv; simp at hv; subst hv; rfl
  | fn f cc ih => intro x c t hp hr v hv; simp only [Rel] at hr; obtain ⟨_, e, _⟩ := hr; rw [e] at hv; simp at hv; subst hv; rfl
  | ifc u e ih => intro x c t hp hr v hv; simp only [Rel] at hr; obtain ⟨_, _, e, _⟩ := hr; rw [e] at hv; simp at hv; subst hv; rfl
  | nil k =>
    intro x c t hp hr v hv
    simp only [Rel] at hr
    rw [hr] at hv
    simp at hv
    subst hv
    simp only [Ty.hard, Nat.ble_eq] at hp
    rcases k with _ | _ | _ | _ | _ | k <;> first | rfl | (exfalso; omega)
  | slX z e ih => intro x c t hp hr v hv; simp only [Rel] at hr; obtain ⟨_, _, _, e, _⟩ := hr; rw [e] at hv; simp at hv; subst hv; rfl
  | slV z u e ih => intro x c t hp hr v hv; simp only [Rel] at hr; obtain ⟨_, _, _, e, _⟩ := hr; rw [e] at hv; simp at hv; subst hv; rfl
  | box e ih => intro x c t hp hr v hv; simp only [Rel] at hr; obtain ⟨_, _, e, _⟩ := hr; rw [e] at hv; simp at hv; subst hv; rfl
  | opt e ih =>
    intro x c t hp hr v hv
    cases x with
    | none => simp only [Rel] at hr; rw [hr] at hv; simp at hv; subst hv; rfl
    | some y => simp only [Rel] at hr; obtain ⟨_, _, e, _⟩ := hr; rw [e] at hv; simp at hv; subst hv; rfl
  | siter => intro x c t hp hr v hv; simp only [Rel] at hr; obtain ⟨_, _, e, _⟩ := hr; rw [e] at hv; simp at hv; subst hv; rfl
  | slT u e ih => intro x c t hp hr v hv; simp only [Rel] at hr; obtain ⟨_, _, e, _⟩ := hr; rw [e] at hv; simp at hv; subst hv; rfl
  | fnp f u => intro x c t hp hr v hv; simp only [Rel] at hr; obtain ⟨_, _, e, _⟩ := hr; rw [e] at hv; simp at hv; subst hv; rfl
  | mref u => intro x c t hp hr v hv; simp only [Rel] at hr; obtain ⟨_, _, _, e, _⟩ := hr; rw [e] at hv; simp at hv; subst hv; rfl
  | oref e ih =>
    intro x c t hp hr v hv
    cases x with
    | none => simp only [Rel] at hr; rw [hr] at hv; simp at hv; subst hv; rfl
    | some y => simp only [Rel] at hr; obtain ⟨_, _, e, _⟩ := hr; rw [e] at hv; simp at hv; subst hv; rfl
  | ptr u o s n p => intro x c t hp hr v hv; simp only [Rel] at hr; obtain ⟨_, _, e, _⟩ := hr; rw [e] at hv; simp at hv; subst hv; rfl
  | vref u e ih => intro x c t hp hr v hv; simp only [Rel] at hr; obtain ⟨_, _, _, e, _⟩ := hr; rw [e] at hv; simp at hv; subst hv; rfl
  | map k v _ _ => intro x c t hp hr v hv; simp only [Rel] at hr; obtain ⟨_, _, _, e, _⟩ := hr; rw [e] at hv; simp at hv; subst hv; rfl
  | slA z u e ih => intro x c t hp hr v hv; simp only [Rel] at hr; obtain ⟨_, _, _, e, _⟩ := hr; rw [e] at hv; simp at hv; subst hv; rfl
  | eref u e o p ih => intro x c t hp hr v hv; simp only [Rel] at hr; obtain ⟨_, _, e, _⟩ := hr; rw [e] at hv; simp at hv; subst hv; rfl
  | nb k => intro x c t hp hr v hv; simp only [Rel] at hr; obtain ⟨_, e, _⟩ := hr; rw [e] at hv; simp at hv; subst hv; rfl
  | _ => intro x c t hp; simp [Ty.hard] at hp
theorem hard_of_pure : ∀ {T : Ty}, T.pure = true → T.hard = true := by
  intro T
  induction T with
  | pair a b iha ihb => intro h; simp only [Ty.pure, Ty.hard, Bool.and_eq_true] at h ⊢; exact ⟨iha h.1, ihb h.2⟩
  | arr n e ih => intro h; exact ih h
  | _ => intro h; first | rfl | exact h | (simp [Ty.pure] at h)
theorem solid_of_hard {T : Ty} (h : T.hard = true) : T.solid = true := by cases T <;> first | rfl | (simp [Ty.hard] at h)
end Go.Proofs.Bw
namespace Go.Proofs.Bw
open Go

def strip : Tag → Tag → Option Tag
  | [], u => some u
  | a :: t, b :: u => bif Nat.beq a b then strip t u else none
  | _ :: _, [] => none
theorem strip_some : ∀ {t u r : Tag}, strip t u = some r ↔ u = t ++ r
  | [], u, r => by simp [strip]
  | a :: t, [], r => by simp [strip]
  | a :: t, b :: u, r => by
    simp only [strip]
    cases h : Nat.beq a b with
    | true =>
      have := Nat.eq_of_beq_eq_true h
      subst this
      simp only [cond_true, List.cons_append, List.cons.injEq, true_and]
      exact strip_some
    | false =>
      simp only [cond_false, List.cons_append, List.cons.injEq]
      constructor
      · intro e; cases e
      · rintro ⟨e, _⟩; rw [e] at h; simp at h
theorem isPre_iff : ∀ {t u : Tag}, isPre t u = true ↔ ∃ r, u = t ++ r
  | [], u => by simp [isPre]
  | a :: t, [] => by simp [isPre]
  | a :: t, b :: u => by
    simp only [isPre, Bool.and_eq_true, List.cons_append, List.cons.injEq, isPre_iff (t := t), beq_iff]
    constructor
    · rintro ⟨rfl, r, rfl⟩; exact ⟨r, rfl, rfl⟩
    · rintro ⟨r, rfl, rfl⟩; exact ⟨rfl, r, rfl⟩
theorem strip_none {t u : Tag} : strip t u = none ↔ isPre t u = false := by
  constructor
  · intro h
    cases e : isPre t u with
    | false => rfl
    | true =>
      obtain ⟨r, hr⟩ := isPre_iff.1 e
      rw [strip_some.2 hr] at h; cases h
  · intro h
    cases e : strip t u with
    | none => rfl
    | some r =>
      have := isPre_iff.2 ⟨r, strip_some.1 e⟩
      rw [h] at this; cases this

def rt (t t' : Tag) (h : Hp) : Hp := fun b => match h b with
  | some blk => (match strip t blk.tag with
    | some r => some (blk.withTag (t' ++ r))
    | none => some blk)
  | none => none
def drp (t : Tag) (h : Hp) : Hp := fun b => match h b with
  | some blk => bif isPre t blk.tag then none else some blk
  | none => none
def stb (b : Nat) (blk : Blk) (h : Hp) : Hp := fun c => if c = b then some blk else h c

theorem rt_some {t t' : Tag} {h : Hp} {b : Nat} {blk : Blk} (hb : rt t t' h b = some blk) : ∃ x, h b = some x ∧ ((∃ r, x.tag = t ++ r ∧ blk = x.withTag (t' ++ r)) ∨ (isPre t x.tag = false ∧ blk = x)) := by
  unfold rt at hb
  split at hb
  · rename_i x hx
    split at hb
    · rename_i r hr
      injection hb with hb
      exact ⟨x, hx, .inl ⟨r, strip_some.1 hr, hb.symm⟩⟩
    · rename_i hr
      injection hb with hb
      exact ⟨x, hx, .inr ⟨strip_none.1 hr, hb.symm⟩⟩
  · cases hb
theorem rt_moved {t t' : Tag} {h : Hp} {b : Nat} {x : Blk} {r : Tag} (hb : h b = some x) (ht : x.tag = t ++ r) : rt t t' h b = some (x.withTag (t' ++ r)) := by
  unfold rt; rw [hb]; simp only [strip_some.2 ht]
theorem rt_kept {t t' : Tag} {h : Hp} {b : Nat} {x : Blk} (hb : h b = some x) (ht : isPre t x.tag = false) : rt t t' h b = some x := by
  unfold rt; rw [hb]; simp only [strip_none.2 ht]
theorem rt_none {t t' : Tag} {h : Hp} {b : Nat} (hb : h b = none) : rt t t' h b = none := by unfold rt; rw [hb]
theorem drp_some {t : Tag} {h : Hp} {b : Nat} {blk : Blk} (hb : drp t h b = some blk) : h b = some blk ∧ isPre t blk.tag = false := by
  unfold drp at hb
  split at hb
  · rename_i x hx
    cases hp : isPre t x.tag with
    | true => rw [hp] at hb; simp at hb
    | false => rw [hp] at hb; simp at hb; subst hb; exact ⟨hx, hp⟩
  · cases hb
theorem drp_kept {t : Tag} {h : Hp} {b : Nat} {x : Blk} (hb : h b = some x) (ht : isPre t x.tag = false) : drp t h b = some x := by
  unfold drp; rw [hb]; simp [ht]
theorem drp_none {t : Tag} {h : Hp} {b : Nat} (hb : h b = none) : drp t h b = none := by unfold drp; rw [hb]
theorem withTag_cells {x : Blk} {t : Tag} : (x.withTag t).cells? = x.cells? := by cases x <;> rfl

theorem Inv.sub {w : World} {σ : Sg} {h h' : Hp} (I : Inv w σ h) (hs : ∀ b x, h' b = some x → h b = some x) : Inv w σ h' :=
  ⟨fun b x cs hb hc => I.cells b x cs (hs b x hb) hc, fun b es t hb => I.maps b es t (hs _ _ hb), fun b x hb => I.own b x (hs b x hb), I.sta, fun b c x y hb hc => I.inj b c x y (hs _ _ hb) (hs _ _ hc)⟩
theorem Inv.drp {w : World} {σ : Sg} {h : Hp} (I : Inv w σ h) (t : Tag) : Inv w σ (drp t h) := I.sub fun _ _ hb => (drp_some hb).1
theorem Inv.rt {w : World} {σ : Sg} {h : Hp} (I : Inv w σ h) {t t' : Tag} (hn : ∀ b x, h b = some x → isPre t' x.tag = true → isPre t x.tag = true) : Inv w σ (rt t t' h) := by
  refine ⟨fun b x cs hb hc => ?_, fun b es u hb => ?_, fun b x hb j => ?_, I.sta, fun b c x y hb hc hxy => ?_⟩
  · obtain ⟨x0, h0, h1⟩ := rt_some hb
    refine I.cells b x0 cs h0 ?_
    rcases h1 with ⟨r, _, rfl⟩ | ⟨_, rfl⟩
    · rw [withTag_cells] at hc; exact hc
    · exact hc
  · obtain ⟨x0, h0, h1⟩ := rt_some hb
    rcases h1 with ⟨r, _, e⟩ | ⟨_, rfl⟩
    · cases x0 with
      | cells _ _ => cases e
      | row _ _ => cases e
      | obj o' t0 =>
        injection e with e1 e2
        subst e1
        exact I.maps b _ _ h0
    · exact I.maps b _ _ h0
  · obtain ⟨x0, h0, h1⟩ := rt_some hb
    exact I.own b x0 h0 j
  · obtain ⟨x0, h0, h1⟩ := rt_some hb
    obtain ⟨y0, k0, k1⟩ := rt_some hc
    rcases h1 with ⟨r, h2, rfl⟩ | ⟨h2, rfl⟩ <;> rcases k1 with ⟨r', k2, rfl⟩ | ⟨k2, rfl⟩
    · rw [Blk.tag_withTag, Blk.tag_withTag] at hxy
      exact I.inj b c x0 y0 h0 k0 (by rw [h2, k2, List.append_cancel_left hxy])
    · rw [Blk.tag_withTag] at hxy
      have := hn c _ k0 (isPre_iff.2 ⟨r, hxy.symm⟩)
      rw [k2] at this; cases this
    · rw [Blk.tag_withTag] at hxy
      have := hn b _ h0 (isPre_iff.2 ⟨r', hxy⟩)
      rw [h2] at this; cases this
    · exact I.inj b c _ _ h0 k0 hxy
theorem Inv.stb {w : World} {σ : Sg} {h : Hp} (I : Inv w σ h) {b : Nat} {x y : Blk} {cs cs' : List Value} (hb : h b = some x) (hx : x.cells? = some cs) (hy : y.cells? = some cs') (ht : y.tag = x.tag) (hl : cs'.length = cs.length) :
    Inv (setB w b cs') σ (stb b y h) := by
  obtain ⟨e, lo, hi, h1, h2⟩ := I.cells b x cs hb hx
  refine ⟨fun c z ds hc hz => ?_, fun c es u hc => ?_, fun c z hc j => ?_, fun c j v hc => ?_, fun c d z u hc hd hzu => ?_⟩
  · unfold Bw.stb at hc
    split at hc
    · rename_i e1
      injection hc with hc
      subst hc e1
      rw [hy] at hz
      injection hz with hz
      subst hz
      exact ⟨e, lo, hi, setB_self h1, by omega⟩
    · rename_i e1
      rw [setB_other e1]
      exact I.cells c z ds hc hz
  · unfold Bw.stb at hc
    split at hc
    · injection hc with hc; rw [hc] at hy; cases hy
    · rename_i e1
      rw [setB_other e1]
      exact I.maps c es u hc
  · unfold Bw.stb at hc
    split at hc
    · rename_i e1; subst e1; exact I.own _ x hb j
    · exact I.own c z hc j
  · have hne : c ≠ b := by
      rintro rfl
      rw [I.own c x hb j] at hc; cases hc
    exact (cell?_eq (w := w) (setB_other hne)).trans (I.sta c j v hc)
  · unfold Bw.stb at hc hd
    split at hc <;> split at hd
    · omega
    · rename_i e1 e2; injection hc with hc; subst hc; rw [ht] at hzu; exact (e2 (I.inj b d x u hb hd hzu).symm).elim
    · rename_i e1 e2; injection hd with hd; subst hd; rw [ht] at hzu; exact (e1 (I.inj c b z x hc hb hzu)).elim
    · exact I.inj c d z u hc hd hzu

theorem setB_ext {w : World} {b : Nat} {cs : List Value} : (setB w b cs).os = w.os ∧ (setB w b cs).tape = w.tape ∧ (setB w b cs).output = w.output ∧ (setB w b cs).heap.size = w.heap.size := by
  refine ⟨rfl, rfl, rfl, ?_⟩
  simp [setB, World.setRow]

theorem dead_of {k : Nat} {q : Tag} {v : SV} (hl : v.T.looks = some (k :: q)) : ∀ {ks : List Tag} {c : Tag}, c ∈ ks → isPre c (k :: q) = true → deadV ks v = true := by
  intro ks c hc hp
  unfold deadV
  rw [hl]
  show isPreAny ks (k :: q) = true
  induction ks with
  | nil => cases hc
  | cons x r ih =>
    simp only [isPreAny, Bool.or_eq_true]
    rcases List.mem_cons.1 hc with e | e
    · left; rw [← e]; exact hp
    · right; exact ih e
theorem alive {ks : List Tag} {v : SV} {u : Tag} (hl : v.T.looks = some u) (hd : deadV ks v = false) {c : Tag} (hc : c ∈ ks) : isPre c u = false := by
  cases e : isPre c u with
  | false => rfl
  | true =>
    exfalso
    unfold deadV at hd
    rw [hl] at hd
    have : isPreAny ks u = true := by
      clear hd hl
      induction ks with
      | nil => cases hc
      | cons x r ih =>
        simp only [isPreAny, Bool.or_eq_true]
        rcases List.mem_cons.1 hc with e2 | e2
        · left; rw [← e2]; exact e
        · right; exact ih e2
    have hd' : isPreAny ks u = false := hd
    rw [this] at hd'; cases hd'

def OwnsU (us : St) (k : Nat) : Prop := ∃ v, St.get us k = some v ∧ v.T.pure = false ∧ v.T.closed = true
/-- slots are written: each is emptied, or holds a value that stands by itself -/
theorem SRel.upd2 {σ σ' : Sg} {h h' : Hp} {st : St} {tm tm' : Array Value} {w w' : World} (S : SRel σ h st tm w) (us : St) (ks : List Tag)
    (hσ : σ.le σ') (I : Inv w' σ' h')
    (ha : ∀ b blk k r, h b = some blk → blk.tag = k :: r → hasS us k = false → h' b = some blk)
    (hb : ∀ b blk, h' b = some blk → ∃ k r, blk.tag = k :: r ∧ (hasS us k = true → OwnsU us k) ∧ (hasS us k = false → h b = some blk))
    (hc : ∀ s v, hasS us s = true → St.get us s = some v → s < tm'.size ∧ VRel σ' h' v.T v.x (tm'.getD s undef) [s] ∧ (v.T.closed = true ∨ (v.T.okTop = true ∧ ∀ u, v.T.looks = some u → ∃ k r, u = k :: r ∧ (OwnsU us k ∨ (hasS us k = false ∧ Owns st k)))))
    (hd : tm'.size = tm.size ∧ ∀ s, hasS us s = false → tm'.getD s undef = tm.getD s undef)
    (he : ∀ s v k r, st.get s = some v → hasS us s = false → v.T.looks = some (k :: r) → hasS us k = true → Owns st k → deadV ks v = false → Stays h h' (k :: r) ∧ OwnsU us k) :
    SStep h st tm us ks σ' h' tm' w' := by
  have hown : ∀ k, hasS us k = true → OwnsU us k → Owns (st.upd us ks) k := by
    rintro k hk ⟨v, h1, h2, h3⟩
    exact ⟨v, by rw [get_upd, if_pos hk]; exact h1, h2, h3⟩
  have hhas : ∀ k, OwnsU us k → hasS us k = true := by
    rintro k ⟨v, h1, _⟩
    cases hk : hasS us k with
    | true => rfl
    | false =>
      exfalso
      have : ∀ (l : St), hasS l k = false → St.get l k = none := by
        intro l
        induction l with
        | nil => intro _; rfl
        | cons x r ih =>
          intro hl
          simp only [hasS, Bool.or_eq_false_iff] at hl
          simp only [St.get, hl.1, cond_false]
          exact ih hl.2
      rw [this us hk] at h1; cases h1
  have hkeep : ∀ k, hasS us k = false → Owns st k → Owns (st.upd us ks) k := by
    rintro k hk ⟨x, h1, h2, h3⟩
    refine ⟨x, ?_, h2, h3⟩
    rw [get_upd, if_neg (by simp [hk]), h1]
    have : deadV ks x = false := by unfold deadV; rw [closed_looks h3]
    simp [this]
  refine SRel.upd S us ks hσ I ha ?_ ?_ hd ?_
  · intro b blk hbk
    obtain ⟨k, r, e1, e2, e3⟩ := hb b blk hbk
    exact ⟨k, r, e1, fun hk => hown k hk (e2 hk), e3⟩
  · intro s v hs hv
    obtain ⟨h1, h2, h3⟩ := hc s v hs hv
    rcases h3 with h3 | ⟨h3, h4⟩
    · exact ⟨h1, h2, closed_okTop h3, by rw [closed_looks h3]; simp⟩
    · refine ⟨h1, h2, h3, fun u hu => ?_⟩
      obtain ⟨k, r, e, ho⟩ := h4 u hu
      rcases ho with ho | ⟨hk, ho⟩
      · exact ⟨k, r, e, hown k (hhas k ho) ho⟩
      · exact ⟨k, r, e, hkeep k hk ho⟩
  · intro s v k r hs hns hl hk hdead
    obtain ⟨k', r', e, ho⟩ := S.look s v _ hs hl
    injection e with e _
    obtain ⟨h1, h2⟩ := he s v k r hs hns hl hk (by rw [e]; exact ho) hdead
    exact ⟨h1, hown k hk h2⟩

section
variable {P : Program} {R : Type} {σ : Sg} {h : Hp} {st : St} {a : Act} {w : World} {K : St → List Tag → Option R} {r : R} {o : Oper} {Q : Exit → Act → World → Prop} {tab : Tab}

theorem exec_store {t : TypeId} {x y : Operand} (hop : o.op = .store t x y) {b off : Nat} (hx : a.eval x = .pointer (some ⟨b, off, none⟩)) {v : Value} (hy : a.eval y = v) {j : TypeInfo} (hi : P.info? t = some j) {c : List Value} (hc : v.cells = ⟨c⟩) (hs : c.length = j.size)
    {pre mid post : List Value} {e : TypeId} {lo hi' : Nat} (hb : w.heap[b]? = some (.cells ⟨pre ++ mid ++ post⟩ e (lo, hi'))) (hlo : (pre ++ mid ++ post).length ≤ lo ∨ hi' ≤ lo) (hp : pre.length = off) (hm : mid.length = c.length) (h1 : ∀ u ∈ c, u.oneCell' = true) :
    (execOp a.eval o).run P w = .ok .skip (setB w b (pre ++ c ++ post)) := by
  have hst := storeCells_run (P := P) c off 0 pre mid post w hb hlo (by omega) hm h1
  unfold execOp
  rw [hop]
  simp [Instr.storeAt, Instr.sureAddr, hx, hy, storeVar, sizeOf, typeInfo, hi, hc, hs]
  have hz : c.toArray.toList = c := by simp
  simp [hst]

theorem op_stY {s sz : Nat} {b : Opd} {t : TypeId} {x y : Operand} (ht : TabOk P tab) (S : SRel σ h st a.tmps w) (hop : o.op = .store t x y) (hd : o.dst = none) (hx : opdOk (.t s) x = true) (hy : opdOk b y = true)
    (hsz : (match tab.get t with | some i => Nat.beq i.size sz | none => false) = true)
    (hK : evOp st.get K (.st s b sz) = some r) : o.wp P a w (fun a' w' => ∃ σ' h' us ks, K us ks = some r ∧ Ext w σ h w' σ' h' ∧ SStep h st a.tmps us ks σ' h' a'.tmps w' ∧
      (∀ k rr, hasS us k = true → isPreAny ks (k :: rr) = false → Stays h h' (k :: rr) ∧ OwnsU us k) ∧ a'.defers = a.defers ∧ a'.tmps.size = a.tmps.size) Q := by
  obtain ⟨j, hi, hj⟩ : ∃ j, P.info? t = some j ∧ j.size = sz := by
    split at hsz
    · rename_i i hi
      obtain ⟨_, j, h1, h2, _⟩ := ht t i hi
      exact ⟨j, h1, by rw [h2, Nat.eq_of_beq_eq_true hsz]⟩
    · simp at hsz
  have hev := opdT_eval (a := a) hx
  simp only [evOp] at hK
  split at hK
  · rename_i v hv
    obtain ⟨s0, q, off, str, n, p, i, r0, C, hgp, hK, hr0, hq, hC, ho, hin, bk, ch, hval, hbk⟩ := ptr_use hK (val := a.tmps.getD s undef) (fun u hu => ⟨_, (gp_rel S hu).1⟩)
    obtain ⟨hcc, hK⟩ := bif_some hK
    simp only [Bool.and_eq_true] at hcc
    have hvs := Nat.eq_of_beq_eq_true hcc.2
    split at hK
    · rename_i T hT
      obtain ⟨hrc, hrp, cs, y0, f, hwr, hCc, hCr, hget, hset, hfc, hfr⟩ := root_use S hr0 hq hC hbk
      rw [hset] at hK
      obtain ⟨w2, pre, c, post, m1, m2, m3, m4, m5, mc, m6⟩ := setIn hK hCc hCr ho (fun _ => hin)
      obtain ⟨tg, c', hw', hr'⟩ := opd_rel S hy hv
      have hcells := wr_cells (by have := hcc.1; revert this; cases v.T <;> simp [Ty.pure, Ty.solid]) hw' hr'
      obtain ⟨e, lo, hi', k1, k2⟩ := S.inv.cells bk _ ch hbk rfl
      have hrun := exec_store (P := P) (w := w) hop (hev.trans hval) (v := a.eval y) rfl hi hcells (by rw [hr'.length, hj, hvs]) (pre := pre) (mid := c) (post := post) (by rw [← m2]; exact k1) (by rw [← m2]; exact k2) m3 (by rw [m4, hr'.length]) (Rel.one (hard_of_pure hcc.1) hr')
      have hlen : (pre ++ c' ++ post).length = ch.length := by rw [m2]; simp [m4, hr'.length]
      unfold Oper.wp
      rw [hrun, Oper.upon_skip, hd]
      -- the places that are left
      generalize hks : (bif T.pure then [] else [s0 :: (q ++ [0]) ++ p]) = ks at m1
      let hD : Hp := bif T.pure then h else drp (s0 :: (q ++ [0]) ++ p) h
      have hDsub : ∀ b x, hD b = some x → h b = some x := by
        intro b x hb
        cases hTp : T.pure with
        | true => simp only [hD, hTp, cond_true] at hb; exact hb
        | false => simp only [hD, hTp, cond_false] at hb; exact (drp_some hb).1
      have hDkeep : ∀ b x, h b = some x → isPre (s0 :: (q ++ [0]) ++ p) x.tag = false → hD b = some x := by
        intro b x hb hp
        cases hTp : T.pure with
        | true => simp only [hD, hTp, cond_true]; exact hb
        | false => simp only [hD, hTp, cond_false]; exact drp_kept hb hp
      have hbk' : hD bk = some (.cells ch (s0 :: q)) := hDkeep bk _ hbk (by
        show isPre (s0 :: (q ++ [0]) ++ p) (s0 :: q) = false
        rw [← strip_none]
        cases hh : strip (s0 :: (q ++ [0]) ++ p) (s0 :: q) with
        | none => rfl
        | some r' =>
          have := congrArg List.length (strip_some.1 hh)
          simp at this)
      have ID : Inv w σ hD := S.inv.sub hDsub
      refine ⟨σ, Bw.stb bk (.cells (pre ++ c' ++ post) (s0 :: q)) hD, _, _, m1, ⟨by rw [setB_ext.2.2.2]; exact Nat.le_refl _, σ.le_refl, rfl, rfl, rfl, fun b hb hn => ?_⟩, ?_⟩
      · have hne : b ≠ bk := by rintro rfl; rw [hbk] at hn; cases hn
        refine ⟨setB_other hne, ?_, fun _ => rfl⟩
        unfold Bw.stb
        rw [if_neg hne]
        cases hx : hD b with
        | none => rfl
        | some x => rw [hDsub b x hx] at hn; cases hn
      · have I' := ID.stb (y := .cells (pre ++ c' ++ post) (s0 :: q)) hbk' rfl rfl rfl hlen
        have hstb : ∀ b, b ≠ bk → Bw.stb bk (.cells (pre ++ c' ++ post) (s0 :: q)) hD b = hD b := fun b hne => by unfold Bw.stb; rw [if_neg hne]
        have hstbk : Bw.stb bk (.cells (pre ++ c' ++ post) (s0 :: q)) hD bk = some (.cells (pre ++ c' ++ post) (s0 :: q)) := by unfold Bw.stb; rw [if_pos rfl]
        have m7 := m6 σ (Bw.stb bk (.cells (pre ++ c' ++ post) (s0 :: q)) hD) c' σ.le_refl (fun b blk qq hb htg hpre => by
          by_cases hne : b = bk
          · subst hne
            rw [hbk] at hb
            injection hb with hb
            subst hb
            exfalso
            have := congrArg List.length htg
            simp [Blk.tag] at this
          · rw [hstb b hne]
            refine hDkeep b blk hb ?_
            rw [htg]
            cases hh : isPre (s0 :: (q ++ [0]) ++ p) (s0 :: q ++ [0] ++ qq) with
            | false => rfl
            | true =>
              obtain ⟨r', hr'⟩ := isPre_iff.1 hh
              have : qq = p ++ r' := by
                have h2 : (s0 :: q ++ [0]) ++ qq = (s0 :: q ++ [0]) ++ (p ++ r') := by rw [hr']; simp
                exact List.append_cancel_left h2
              rw [isPre_iff.2 ⟨r', this⟩] at hpre; cases hpre) (Rel.pure σ.le_refl hcc.1 hr')
        obtain ⟨n1, n2⟩ := hfr w2 (pre ++ c' ++ post) σ (Bw.stb bk (.cells (pre ++ c' ++ post) (s0 :: q)) hD) σ.le_refl (fun b blk rr hb htg hpre => by
          have hne : b ≠ bk := by
            rintro rfl
            rw [hbk] at hb
            injection hb with hb
            subst hb
            simp only [Blk.tag, List.cons.injEq, true_and] at htg
            rw [isPre_iff.2 ⟨[], by rw [← htg]; simp⟩] at hpre; cases hpre
          rw [hstb b hne]
          refine hDkeep b blk hb ?_
          rw [htg]
          cases hh : isPre (s0 :: (q ++ [0]) ++ p) (s0 :: rr) with
          | false => rfl
          | true =>
            obtain ⟨r', hr'⟩ := isPre_iff.1 hh
            have : rr = q ++ ([0] ++ p ++ r') := by
              have := List.cons.inj hr'
              rw [this.2]; simp
            rw [isPre_iff.2 ⟨_, this⟩] at hpre; cases hpre) hstbk m7
        have hown : Owns st s0 := ⟨r0, hr0, hrp, hrc⟩
        have gs : St.get [(s0, some (f ⟨.box w2.T, w2.x⟩))] s0 = some (f ⟨.box w2.T, w2.x⟩) := by rw [get_cons, if_pos rfl]
        have hou : OwnsU [(s0, some (f ⟨.box w2.T, w2.x⟩))] s0 := ⟨_, gs, (hfc w2).2.1, (hfc w2).1 (mc (Ty.closed_of_pure hcc.1))⟩
        have hhs : ∀ k, hasS [(s0, some (f ⟨.box w2.T, w2.x⟩))] k = true → k = s0 := fun k hk => by simp only [hasS, Bool.or_false] at hk; exact (beq_iff.1 hk).symm
        have hstay : ∀ k rr, hasS [(s0, some (f ⟨.box w2.T, w2.x⟩))] k = true → isPreAny ks (k :: rr) = false → Stays h (Bw.stb bk (.cells (pre ++ c' ++ post) (s0 :: q)) hD) (k :: rr) ∧ OwnsU [(s0, some (f ⟨.box w2.T, w2.x⟩))] k := by
          intro k rr hk hpre
          have := hhs k hk
          subst this
          have hal : T.pure = false → isPre (k :: (q ++ [0]) ++ p) (k :: rr) = false := fun hTp => by
            rw [hTp] at hks
            rw [← hks] at hpre
            simpa [isPreAny] using hpre
          refine ⟨⟨fun b cs0 hb => ?_, fun b cs0 hb => ?_, fun b cs0 hb => ?_, fun hn b blk hb => ?_⟩, hou⟩
          · by_cases hne : b = bk
            · subst hne
              rw [hbk] at hb
              injection hb with hb
              injection hb with _ hb
              exact ⟨_, by rw [hstbk, hb]⟩
            · refine ⟨cs0, ?_⟩
              rw [hstb b hne]
              cases hTp : T.pure with
              | true => simp only [hD, hTp, cond_true]; exact hb
              | false => exact hDkeep b _ hb (hal hTp)
          · have hne : b ≠ bk := by rintro rfl; rw [hbk] at hb; cases hb
            rw [hstb b hne]
            cases hTp : T.pure with
            | true => simp only [hD, hTp, cond_true]; exact hb
            | false => exact hDkeep b _ hb (hal hTp)
          · have hne : b ≠ bk := by rintro rfl; rw [hbk] at hb; cases hb
            rw [hstb b hne]
            cases hTp : T.pure with
            | true => simp only [hD, hTp, cond_true]; exact hb
            | false => exact hDkeep b _ hb (hal hTp)
          · by_cases hne : b = bk
            · subst hne
              rw [hstbk] at hb
              injection hb with hb
              subst hb
              exact fun e => hn b (.cells ch (k :: q)) hbk e
            · rw [hstb b hne] at hb
              exact hn b blk (hDsub b blk hb)
        refine ⟨SRel.upd2 S _ ks σ.le_refl I' ?_ ?_ ?_ ⟨rfl, fun _ _ => rfl⟩ ?_, hstay, rfl, rfl⟩
        · intro b blk k rr hb htg hk
          have hne : b ≠ bk := by
            rintro rfl
            rw [hbk] at hb
            injection hb with hb
            subst hb
            simp only [Blk.tag, List.cons.injEq] at htg
            rw [← htg.1] at hk
            simp [hasS] at hk
          rw [hstb b hne]
          refine hDkeep b blk hb ?_
          rw [htg]
          have hks0 : s0 ≠ k := by rintro rfl; simp [hasS] at hk
          show isPre (s0 :: ((q ++ [0]) ++ p)) (k :: rr) = false
          simp only [isPre, nat_beq_false hks0, Bool.false_and]
        · intro b blk hb
          by_cases hne : b = bk
          · subst hne
            rw [hstbk] at hb
            injection hb with hb
            subst hb
            exact ⟨s0, q, rfl, fun _ => hou, fun hk => by simp [hasS] at hk⟩
          · rw [hstb b hne] at hb
            have hb0 := hDsub b blk hb
            obtain ⟨k, rr, e1, _⟩ := S.own b blk hb0
            exact ⟨k, rr, e1, fun hk => by rw [hhs k hk]; exact hou, fun _ => hb0⟩
        · intro k x hk hx
          have := hhs k hk
          subst this
          rw [gs] at hx
          injection hx with hx
          subst hx
          exact ⟨(S.vals _ _ hr0).1, ⟨cs, by rw [(hfc w2).2.2]; exact hwr, n1⟩, .inl ((hfc w2).1 (mc (Ty.closed_of_pure hcc.1)))⟩
        · intro s' v' k rr hs' hns hlk hk hok hdead
          exact hstay k rr hk (by unfold deadV at hdead; rw [hlk] at hdead; exact hdead)
    · simp at hK
  · simp at hK
theorem op_st {s sz : Nat} {b : Opd} {t : TypeId} {x y : Operand} (ht : TabOk P tab) (S : SRel σ h st a.tmps w) (hop : o.op = .store t x y) (hd : o.dst = none) (hx : opdOk (.t s) x = true) (hy : opdOk b y = true)
    (hsz : (match tab.get t with | some i => Nat.beq i.size sz | none => false) = true)
    (hK : evOp st.get K (.st s b sz) = some r) : o.wp P a w (Post σ h w st K r a) Q := by
  refine Oper.wp_mono ?_ (op_stY ht S hop hd hx hy hsz hK)
  rintro a' w' ⟨σ', h', us, ks, k1, k2, k3, _, k5, k6⟩
  exact ⟨σ', h', us, ks, k1, k2, k3, k5, k6⟩
end
end Go.Proofs.Bw
namespace Go.Proofs.Bw
open Go

section
variable {P : Program} {R : Type} {σ : Sg} {h : Hp} {st : St} {a : Act} {w : World} {K : St → List Tag → Option R} {r : R} {o : Oper} {Q : Exit → Act → World → Prop} {tab : Tab}

theorem isPre_head {a b : Nat} {t u : Tag} (h : isPre (a :: t) (b :: u) = true) : a = b := by
  simp only [isPre, Bool.and_eq_true] at h
  exact Nat.eq_of_beq_eq_true h.1
theorem isPre_ne {a b : Nat} {t u : Tag} (h : a ≠ b) : isPre (a :: t) (b :: u) = false := by
  cases e : isPre (a :: t) (b :: u) with
  | false => rfl
  | true => exact (h (isPre_head e)).elim
theorem isPre_single {k : Nat} {u : Tag} : isPre [k] (k :: u) = true := by simp [isPre]

theorem takeV_rel {d : Nat} {v u : SV} {val : Value} {t : Tag} (hr : VRel σ h v.T v.x val [d]) (hcl : v.T.closed = true) (hu : takeV d v = some u) : VRel σ h u.T u.x val t ∧ u.T.okTop = true ∧ u.T.looks = some [d] := by
  unfold takeV at hu
  split at hu
  · rename_i z e x
    injection hu with hu
    subst hu
    obtain ⟨c, hw, hr⟩ := hr
    simp only [Rel] at hr
    obtain ⟨ad, len, cap, h1, h2, h3, h4⟩ := hr
    refine ⟨⟨c, hw, ?_⟩, by simpa [Ty.okTop, Ty.closed] using hcl, rfl⟩
    simp only [Rel]
    refine ⟨ad, len, cap, h1, h2, h3, ?_⟩
    rcases h4 with h4 | ⟨b, ch, f1, f2, f3, f4⟩
    · left
      have := h2.1
      omega
    · right
      refine ⟨b, 0, ch, f1, f2, ?_, by simpa using f4.imp fun _ _ k => Rel.pure σ.le_refl (by simpa [Ty.closed] using hcl) k⟩
      rw [f3]
      have := Nat.mul_le_mul_right e.size h2.1
      omega
  · rename_i e x
    injection hu with hu
    subst hu
    obtain ⟨c, hw, hr⟩ := hr
    simp only [Rel] at hr
    obtain ⟨b, ch, e1, e2, e3⟩ := hr
    refine ⟨⟨c, hw, ?_⟩, rfl, rfl⟩
    simp only [Rel]; exact ⟨b, ch, by simpa using e1, e2, by simp⟩
  · cases hu
/-- a slot's owned value goes to a fresh slot -/
theorem SRel.take {tm : Array Value} (S : SRel σ h st tm w) {d s : Nat} {v : SV} (hs : st.get s = some v) (hcl : v.T.closed = true) (hf : fresh st.get d = true) (hds : d ≠ s) (hsz : d < tm.size) :
    SStep h st tm [(d, some v), (s, takeV d v)] [[s]] σ (rt [s] [d] h) (tm.setIfInBounds d (tm.getD s undef)) w := by
  have hno := not_owns_of_fresh hf
  have gd : St.get [(d, some v), (s, takeV d v)] d = some v := by rw [get_cons, if_pos rfl]
  have gs : St.get [(d, some v), (s, takeV d v)] s = takeV d v := by rw [get_cons, if_neg hds, get_cons, if_pos rfl]
  have hhas : ∀ k, hasS [(d, some v), (s, takeV d v)] k = true → k = d ∨ k = s := fun k hk => by
    simp only [hasS, Bool.or_false, Bool.or_eq_true] at hk
    rcases hk with hk | hk
    · exact .inl (beq_iff.1 hk).symm
    · exact .inr (beq_iff.1 hk).symm
  have hnot : ∀ k, hasS [(d, some v), (s, takeV d v)] k = false → d ≠ k ∧ s ≠ k := fun k hk => by
    simp only [hasS, Bool.or_false, Bool.or_eq_false_iff] at hk
    exact ⟨fun e => by rw [e] at hk; simp at hk, fun e => by rw [e] at hk; simp at hk⟩
  have hnd : ∀ b x q, h b = some x → x.tag ≠ d :: q := fun b x q hb e => by
    obtain ⟨k, r, e2, ho⟩ := S.own b x hb
    rw [e] at e2; injection e2 with e2 _
    exact hno (by rw [e2]; exact ho)
  refine SRel.upd2 S _ _ σ.le_refl (S.inv.rt (fun b x hb hp => ?_)) ?_ ?_ ?_ ⟨by simp, fun k hk => ?_⟩ ?_
  · obtain ⟨q, e⟩ := isPre_iff.1 hp
    exact (hnd b x q hb (by simpa using e)).elim
  · intro b blk k q hb ht hk
    refine rt_kept hb ?_
    rw [ht]; exact isPre_ne (hnot k hk).2
  · intro b blk hb
    obtain ⟨x, hx, hcase⟩ := rt_some hb
    rcases hcase with ⟨q, h1, rfl⟩ | ⟨h1, rfl⟩
    · refine ⟨d, q, by rw [Blk.tag_withTag]; rfl, fun _ => ⟨v, gd, ?_, hcl⟩, fun hk => by simp [hasS] at hk⟩
      obtain ⟨k, q', e, u, hu1, hu2, _⟩ := S.own b x hx
      rw [h1] at e
      injection e with e _
      rw [← e, hs] at hu1
      injection hu1 with hu1
      rw [hu1]; exact hu2
    · obtain ⟨k, q, e, ho⟩ := S.own b blk hx
      refine ⟨k, q, e, fun hk => ?_, fun _ => hx⟩
      rcases hhas k hk with rfl | rfl
      · exact (hnd b blk q hx e).elim
      · rw [e, isPre_single] at h1; cases h1
  · intro k x hk hx
    have hmv := VRel.move (h' := rt [s] [d] h) (t' := [d]) σ.le_refl hcl (fun b blk q hb ht => rt_moved hb ht) (S.vals s v hs).2
    rcases hhas k hk with rfl | rfl
    · rw [gd] at hx
      injection hx with hx
      subst hx
      rw [getD_set, if_pos ⟨rfl, hsz⟩]
      exact ⟨by simpa using hsz, hmv, .inl hcl⟩
    · rw [gs] at hx
      obtain ⟨g1, g2, g3⟩ := takeV_rel (t := [k]) hmv hcl hx
      rw [getD_set, if_neg (fun hh => hds hh.1)]
      refine ⟨by simpa using (S.vals k v hs).1, g1, .inr ⟨g2, fun u hu => ?_⟩⟩
      rw [g3] at hu
      injection hu with hu
      refine ⟨d, [], hu.symm, .inl ⟨v, gd, ?_, hcl⟩⟩
      unfold takeV at hx
      split at hx
      · rfl
      · rfl
      · cases hx
  · rw [getD_set, if_neg (fun hh => (hnot k hk).1 hh.1)]
  · intro s' x k q hs' hns hl hk hok hdead
    exfalso
    rcases hhas k hk with rfl | rfl
    · exact hno hok
    · rw [dead_of hl (c := [k]) (by simp) isPre_single] at hdead; cases hdead
theorem Ext.rt {s d : Nat} (hf : ∀ b x, h b = some x → b < w.heap.size) : Ext w σ h w σ (rt [s] [d] h) :=
  ⟨Nat.le_refl _, σ.le_refl, rfl, rfl, rfl, fun _ _ hn => ⟨rfl, rt_none hn, fun _ => rfl⟩⟩

theorem op_take {d s : Nat} {x : Operand} (S : SRel σ h st a.tmps w) (hop : o.op = .move x ∨ o.op = .assign x) (hd : dstOk a.tmps.size o d = true) (hx : opdOk (.t s) x = true)
    (hK : evOp st.get K (.take d s) = some r) : o.wp P a w (Post σ h w st K r a) Q := by
  have hev := opdT_eval (a := a) hx
  have hex : (execOp a.eval o).run P w = .ok (.value (a.tmps.getD s undef)) w := by
    unfold execOp
    rcases hop with h1 | h1 <;> rw [h1, ← hev] <;> rfl
  simp only [evOp] at hK
  split at hK
  · rename_i v hv
    obtain ⟨hc, hK⟩ := bif_some hK
    simp only [Bool.and_eq_true, Bool.not_eq_true'] at hc
    obtain ⟨h1, h2⟩ := dstOk_eq hd
    unfold Oper.wp
    rw [hex, Oper.upon_value, h1]
    have hds : d ≠ s := fun e => by rw [e] at hc; simp at hc
    exact ⟨σ, _, _, _, hK, ⟨Nat.le_refl _, σ.le_refl, rfl, rfl, rfl, fun _ _ hn => ⟨rfl, rt_none hn, fun _ => rfl⟩⟩, S.take hv hc.1.1 hc.1.2 hds h2, rfl, by simp [Act.put]⟩
  · simp at hK

/-- a slot's owned value goes into a new box -/
theorem op_boxT {d s : Nat} {e : TypeId} {x : Operand} (S : SRel σ h st a.tmps w) (hop : o.op = .box e x) (hd : dstOk a.tmps.size o d = true) (hx : opdOk (.t s) x = true)
    (hK : evOp st.get K (.boxT d s) = some r) : o.wp P a w (Post σ h w st K r a) Q := by
  have hev := opdT_eval (a := a) hx
  simp only [evOp] at hK
  split at hK
  · rename_i v hv
    obtain ⟨hc, hK⟩ := bif_some hK
    simp only [Bool.and_eq_true, Bool.not_eq_true'] at hc
    obtain ⟨⟨⟨hcl, hso⟩, hf⟩, hds⟩ := hc
    have hds : d ≠ s := fun e => by rw [e] at hds; simp at hds
    obtain ⟨h1, h2⟩ := dstOk_eq hd
    obtain ⟨_, c, hw, hr⟩ := S.vals s v hv
    have hcells := wr_cells hso hw hr
    have hrun : (execOp a.eval o).run P w = .ok (.value (.pointer (some ⟨w.heap.size, 0, none⟩))) (w.alloc (.cells (a.eval x).cells e)) := by
      unfold execOp
      rw [hop]
      simp [Instr.box, newVar_run]
    rw [hev, hcells] at hrun
    unfold Oper.wp
    rw [hrun, Oper.upon_value, h1]
    have hno := not_owns_of_fresh hf
    have hnd : ∀ b x q, h b = some x → x.tag ≠ d :: q := fun b x q hb => no_tag S hf hb
    have gd : St.get [(d, some ⟨.box v.T, v.x⟩), (s, none)] d = some ⟨.box v.T, v.x⟩ := by rw [get_cons, if_pos rfl]
    have gs : St.get [(d, some ⟨.box v.T, v.x⟩), (s, none)] s = none := by rw [get_cons, if_neg hds, get_cons, if_pos rfl]
    have hhas : ∀ k, hasS [(d, some ⟨.box v.T, v.x⟩), (s, none)] k = true → k = d ∨ k = s := fun k hk => by
      simp only [hasS, Bool.or_false, Bool.or_eq_true] at hk
      rcases hk with hk | hk
      · exact .inl (beq_iff.1 hk).symm
      · exact .inr (beq_iff.1 hk).symm
    have hnot : ∀ k, hasS [(d, some ⟨.box v.T, v.x⟩), (s, none)] k = false → d ≠ k ∧ s ≠ k := fun k hk => by
      simp only [hasS, Bool.or_false, Bool.or_eq_false_iff] at hk
      exact ⟨fun e => by rw [e] at hk; simp at hk, fun e => by rw [e] at hk; simp at hk⟩
    have I1 : Inv w σ (rt [s] [d, 0] h) := S.inv.rt (fun b x hb hp => by
      obtain ⟨q, e⟩ := isPre_iff.1 hp
      exact (hnd b x (0 :: q) hb (by simpa using e)).elim)
    have hnew : ∀ b x, rt [s] [d, 0] h b = some x → x.tag ≠ (Blk.cells c [d]).tag := fun b x hb e => by
      obtain ⟨y, hy, hcase⟩ := rt_some hb
      rcases hcase with ⟨q, _, rfl⟩ | ⟨_, rfl⟩
      · rw [Blk.tag_withTag] at e; simp [Blk.tag] at e
      · exact hnd b x [] hy e
    have I2 : Inv (w.alloc (.cells ⟨c⟩ e)) σ (Hp.add (rt [s] [d, 0] h) w.heap.size (.cells c [d])) := I1.addBlk (e := e) (lo := 0) (hi := 0) rfl (.inr (Nat.le_refl _)) rfl hnew
    have hold : ∀ b x, rt [s] [d, 0] h b = some x → Hp.add (rt [s] [d, 0] h) w.heap.size (.cells c [d]) b = some x := fun b x hb => by
      unfold Hp.add; rw [if_neg (by have := I1.lt hb; omega)]; exact hb
    refine ⟨σ, Hp.add (rt [s] [d, 0] h) w.heap.size (.cells c [d]), _, _, hK, ⟨by simp, σ.le_refl, rfl, rfl, rfl, fun b hb hn => ⟨push_old (w' := w.alloc (.cells ⟨c⟩ e)) rfl hb, ?_, fun _ => rfl⟩⟩, ?_, rfl, by simp [Act.put]⟩
    · unfold Hp.add; rw [if_neg (by omega)]; exact rt_none hn
    · show SStep h st a.tmps _ _ σ _ (a.tmps.setIfInBounds d (.pointer (some ⟨w.heap.size, 0, none⟩))) _
      refine SRel.upd2 S _ _ σ.le_refl I2 ?_ ?_ ?_ ⟨by simp, fun k hk => ?_⟩ ?_
      · intro b blk k q hb ht hk
        refine hold b blk (rt_kept hb ?_)
        rw [ht]; exact isPre_ne (hnot k hk).2
      · intro b blk hb
        unfold Hp.add at hb
        split at hb
        · injection hb with hb
          subst hb
          exact ⟨d, [], rfl, fun _ => ⟨_, gd, rfl, by simpa [Ty.closed] using hcl⟩, fun hk => by simp [hasS] at hk⟩
        · obtain ⟨x, hx, hcase⟩ := rt_some hb
          rcases hcase with ⟨q, k1, rfl⟩ | ⟨k1, rfl⟩
          · exact ⟨d, 0 :: q, by rw [Blk.tag_withTag]; rfl, fun _ => ⟨_, gd, rfl, by simpa [Ty.closed] using hcl⟩, fun hk => by simp [hasS] at hk⟩
          · obtain ⟨k, q, e, ho⟩ := S.own b blk hx
            refine ⟨k, q, e, fun hk => ?_, fun _ => hx⟩
            rcases hhas k hk with rfl | rfl
            · exact (hnd b blk q hx e).elim
            · rw [e, isPre_single] at k1; cases k1
      · intro k x hk hx
        rcases hhas k hk with rfl | rfl
        · rw [gd] at hx
          injection hx with hx
          subst hx
          rw [getD_set, if_pos ⟨rfl, h2⟩]
          refine ⟨by simpa using h2, ⟨_, rfl, ?_⟩, .inl (by simpa [Ty.closed] using hcl)⟩
          simp only [Rel]
          refine ⟨w.heap.size, c, rfl, by simp [Hp.add], Rel.move σ.le_refl hcl (fun b blk q hb ht => ?_) hr⟩
          exact hold b _ (rt_moved hb ht)
        · rw [gs] at hx; cases hx
      · rw [getD_set, if_neg (fun hh => (hnot k hk).1 hh.1)]
      · intro s' x k q hs' hns hl hk hok hdead
        exfalso
        rcases hhas k hk with rfl | rfl
        · exact hno hok
        · rw [dead_of hl (c := [k]) (by simp) isPre_single] at hdead; cases hdead
  · simp at hK
end
end Go.Proofs.Bw
namespace Go.Proofs.Bw
open Go

section
variable {P : Program} {R : Type} {σ : Sg} {h : Hp} {st : St} {a : Act} {w : World} {K : St → List Tag → Option R} {r : R} {o : Oper} {Q : Exit → Act → World → Prop} {tab : Tab}

theorem pre_unique {pre pre' c c' post post' ch : List Value} (h1 : ch = pre ++ c ++ post) (h2 : ch = pre' ++ c' ++ post') (hp : pre.length = pre'.length) (hc : c.length = c'.length) : pre = pre' ∧ c = c' ∧ post = post' := by
  have h3 := h1.symm.trans h2
  rw [List.append_assoc, List.append_assoc] at h3
  obtain ⟨e1, e2⟩ := List.append_inj h3 hp
  obtain ⟨e2, e3⟩ := List.append_inj e2 hc
  exact ⟨e1, e2, e3⟩
theorem pre_cases {s : Nat} {q p qq : Tag} (h : isPre p qq = false) : isPre (s :: (q ++ [0]) ++ p) (s :: q ++ [0] ++ qq) = false := by
  cases hh : isPre (s :: (q ++ [0]) ++ p) (s :: q ++ [0] ++ qq) with
  | false => rfl
  | true =>
    obtain ⟨r', hr'⟩ := isPre_iff.1 hh
    have : qq = p ++ r' := by
      have h2 : (s :: q ++ [0]) ++ qq = (s :: q ++ [0]) ++ (p ++ r') := by rw [hr']; simp
      exact List.append_cancel_left h2
    rw [isPre_iff.2 ⟨r', this⟩] at h; cases h
theorem pre_cases2 {s : Nat} {q p rr : Tag} (h : isPre q rr = false) : isPre (s :: (q ++ [0]) ++ p) (s :: rr) = false := by
  cases hh : isPre (s :: (q ++ [0]) ++ p) (s :: rr) with
  | false => rfl
  | true =>
    obtain ⟨r', hr'⟩ := isPre_iff.1 hh
    have : rr = q ++ ([0] ++ p ++ r') := by
      have := List.cons.inj hr'
      rw [this.2]; simp
    rw [isPre_iff.2 ⟨_, this⟩] at h; cases h
theorem pre_long {s : Nat} {q p : Tag} : isPre (s :: (q ++ [0]) ++ p) (s :: q) = false := by
  rw [← strip_none]
  cases hh : strip (s :: (q ++ [0]) ++ p) (s :: q) with
  | none => rfl
  | some r' =>
    have := congrArg List.length (strip_some.1 hh)
    simp at this

theorem op_ldT {d s sz : Nat} {ag : Bool} {t : TypeId} {x : Operand} (ht : TabOk P tab) (S : SRel σ h st a.tmps w) (hop : o.op = .load t x) (hd : dstOk a.tmps.size o d = true) (hx : opdOk (.t s) x = true) (hsz : tabSz tab t sz ag = true)
    (hK : evOp st.get K (.ldT d s sz ag) = some r) : o.wp P a w (Post σ h w st K r a) Q := by
  obtain ⟨dd, j, hu, hi, hj, hdg⟩ := tabSz_ok ht hsz
  have hev := opdT_eval (a := a) hx
  simp only [evOp] at hK
  obtain ⟨s0, q, off, str, n, p, i, r0, C, hgp, hK, hr0, hq, hC, ho, hin, bk, ch, hval, hbk⟩ := ptr_use hK (val := a.tmps.getD s undef) (fun u hu => ⟨_, (gp_rel S hu).1⟩)
  obtain ⟨hpi, hK⟩ := bif_none hK
  obtain ⟨hrc, hrp, cs, y, f, hwr, hCc, hCr, hget, hset, hfc, hfr⟩ := root_use S hr0 hq hC hbk
  rw [hget] at hK
  obtain ⟨v, pre, c, post, k1, k2, k3, k4, k5⟩ := getIn hK hCr ho
  obtain ⟨hc, hK⟩ := bif_some k1
  simp only [Bool.and_eq_true, Bool.not_eq_true'] at hc
  obtain ⟨⟨⟨⟨hvc, hvp⟩, hs1⟩, hs2⟩, hs3⟩ := hc
  have hs1 := Nat.eq_of_beq_eq_true hs1
  have hs2 := bbeq_eq hs2
  have hs3 := Nat.eq_of_beq_eq_true hs3
  have hdg' : descAgg dd = v.T.agg := by rw [hdg, hs2]
  obtain ⟨hstr, hn1⟩ := offAt_noIdx hpi ho
  subst hstr hn1
  have hi0 : i.toNat = 0 := by omega
  have hoff : off + 0 * i.toNat = pre.length := by rw [k3]; simp
  have hex := exec_load (P := P) (c := c) hop (hev.trans hval) hu hi (fun k v hk => by
    rw [cell_at S.inv hbk rfl, k2, hoff, List.append_assoc, List.getElem?_append_right (by omega), List.getElem?_append_left (by
      have := (List.getElem?_eq_some_iff.1 hk).1; omega)]
    rw [show pre.length + k - pre.length = k by omega]; exact hk) (by rw [k4.length, hj, hs1]) (one_of k4 hdg')
  rw [hdg'] at hex
  rw [hset] at hK
  obtain ⟨w2, pre2, c2, post2, m1, m2, m3, m4, m5, mc, m6⟩ := setIn hK hCc hCr ho (fun hh => by rw [hpi] at hh; cases hh)
  obtain ⟨rfl, rfl, rfl⟩ := pre_unique m2 k2 (by rw [m3, k3]) (by rw [m4, k4.length, hs3]; rfl)
  obtain ⟨hf, hds, hk⟩ := putR_some m1
  obtain ⟨h1, h2⟩ := dstOk_eq hd
  unfold Oper.wp
  rw [hex, Oper.upon_value, h1]
  have hnd : ∀ b x q, h b = some x → x.tag ≠ d :: q := fun b x q hb => no_tag S hf hb
  have I' : Inv w σ (rt (s0 :: (q ++ [0]) ++ p) [d] h) := S.inv.rt (fun b x hb hp => by
    obtain ⟨q', e⟩ := isPre_iff.1 hp
    exact (hnd b x q' hb (by simpa using e)).elim)
  have hkeep : ∀ b x, h b = some x → isPre (s0 :: (q ++ [0]) ++ p) x.tag = false → rt (s0 :: (q ++ [0]) ++ p) [d] h b = some x := fun b x hb hp => rt_kept hb hp
  have hbk' := hkeep bk _ hbk pre_long
  have hown : Owns st s0 := ⟨r0, hr0, hrp, hrc⟩
  have hany : ∃ z, c2 = [z] := List.length_eq_one_iff.1 (by rw [m4]; rfl)
  have m7 := m6 σ (rt (s0 :: (q ++ [0]) ++ p) [d] h) c2 σ.le_refl (fun b blk qq hb htg hpre => hkeep b blk hb (by rw [htg]; exact pre_cases hpre)) (by simp only [Rel]; exact hany)
  rw [← m2] at m7
  obtain ⟨n1, n2⟩ := hfr w2 ch σ (rt (s0 :: (q ++ [0]) ++ p) [d] h) σ.le_refl (fun b blk rr hb htg hpre => hkeep b blk hb (by rw [htg]; exact pre_cases2 hpre)) hbk' m7
  have hvmoved : VRel σ (rt (s0 :: (q ++ [0]) ++ p) [d] h) v.T v.x (pick v.T.agg c2) [d] := by
    refine VRel.of_rel (Rel.move σ.le_refl hvc (fun b blk qq hb htg => ?_) k4)
    exact rt_moved hb (by rw [htg]; simp)
  refine ⟨σ, rt (s0 :: (q ++ [0]) ++ p) [d] h, _, _, hk, ⟨Nat.le_refl _, σ.le_refl, rfl, rfl, rfl, fun _ _ hn => ⟨rfl, rt_none hn, fun _ => rfl⟩⟩, ?_, rfl, by simp [Act.put]⟩
  refine S.root hf hds h2 hown ((hfc w2).1 (mc rfl)) (hfc w2).2.1 σ.le_refl I' (fun b blk k qq hb htg hk => ?_) (fun b blk hb => ?_) hvmoved (closed_okTop hvc) (by rw [closed_looks hvc]; simp) ⟨cs, by rw [(hfc w2).2.2]; exact hwr, n1⟩ (fun s' v' qq hs' hlk hdead => ?_)
  · refine hkeep b blk hb ?_
    rw [htg]; exact isPre_ne (Ne.symm hk)
  · obtain ⟨x0, hx0, hcase⟩ := rt_some hb
    rcases hcase with ⟨rr, _, rfl⟩ | ⟨_, rfl⟩
    · exact .inr (.inr ⟨rr, by rw [Blk.tag_withTag]; rfl, hvp, hvc⟩)
    · exact .inl hx0
  · have hal := alive hlk hdead (c := s0 :: (q ++ [0]) ++ p) (by simp)
    refine ⟨fun b cs0 hb => ⟨cs0, hkeep b _ hb hal⟩, fun b cs0 hb => hkeep b _ hb hal, fun b cs0 hb => hkeep b _ hb hal, fun hn b blk hb => ?_⟩
    obtain ⟨x0, hx0, hcase⟩ := rt_some hb
    rcases hcase with ⟨rr, _, rfl⟩ | ⟨_, rfl⟩
    · rw [Blk.tag_withTag]
      intro e
      injection e with e _
      exact hds e
    · exact hn b blk hx0

theorem op_stT {s k sz : Nat} {t : TypeId} {x y : Operand} (ht : TabOk P tab) (S : SRel σ h st a.tmps w) (hop : o.op = .store t x y) (hd : o.dst = none) (hx : opdOk (.t s) x = true) (hy : opdOk (.t k) y = true)
    (hsz : (match tab.get t with | some i => Nat.beq i.size sz | none => false) = true)
    (hK : evOp st.get K (.stT s k sz) = some r) : o.wp P a w (Post σ h w st K r a) Q := by
  obtain ⟨j, hi, hj⟩ : ∃ j, P.info? t = some j ∧ j.size = sz := by
    split at hsz
    · rename_i i hi
      obtain ⟨_, j, h1, h2, _⟩ := ht t i hi
      exact ⟨j, h1, by rw [h2, Nat.eq_of_beq_eq_true hsz]⟩
    · simp at hsz
  have hev := opdT_eval (a := a) hx
  have hevk := opdT_eval (a := a) hy
  simp only [evOp] at hK
  split at hK
  · rename_i v hv
    obtain ⟨s0, q, off, str, n, p, i, r0, C, hgp, hK, hr0, hq, hC, ho, hin, bk, ch, hval, hbk⟩ := ptr_use hK (val := a.tmps.getD s undef) (fun u hu => ⟨_, (gp_rel S hu).1⟩)
    obtain ⟨hcc, hK⟩ := bif_some hK
    simp only [Bool.and_eq_true, Bool.not_eq_true'] at hcc
    obtain ⟨⟨⟨⟨hvc, hvh⟩, hpi⟩, hks⟩, hvs⟩ := hcc
    have hvs := Nat.eq_of_beq_eq_true hvs
    have hks : k ≠ s0 := fun e => by rw [e] at hks; simp at hks
    obtain ⟨hrc, hrp, cs, y0, f, hwr, hCc, hCr, hget, hset, hfc, hfr⟩ := root_use S hr0 hq hC hbk
    obtain ⟨hstr, hn1⟩ := offAt_noIdx hpi ho
    subst hstr hn1
    rw [hset] at hK
    obtain ⟨w2, pre, c, post, m1, m2, m3, m4, m5, mc, m6⟩ := setIn hK hCc hCr ho (fun hh => by rw [hpi] at hh; cases hh)
    obtain ⟨_, c', hw', hr'⟩ := S.vals k v hv
    have hcells := wr_cells (solid_of_hard hvh) hw' hr'
    obtain ⟨e, lo, hi', k1, k2⟩ := S.inv.cells bk _ ch hbk rfl
    have hrun := exec_store (P := P) (w := w) hop (hev.trans hval) (v := a.tmps.getD k undef) hevk hi hcells (by rw [hr'.length, hj, hvs]) (pre := pre) (mid := c) (post := post) (by rw [← m2]; exact k1) (by rw [← m2]; exact k2) (by rw [m3]; simp) (by rw [m4, hr'.length]) (Rel.one hvh hr')
    have hlen : (pre ++ c' ++ post).length = ch.length := by rw [m2]; simp [m4, hr'.length]
    unfold Oper.wp
    rw [hrun, Oper.upon_skip, hd]
    -- what stood at the place is dropped; what slot k owns comes there
    let h1 : Hp := drp (s0 :: (q ++ [0]) ++ p) h
    let h2 : Hp := rt [k] (s0 :: (q ++ [0]) ++ p) h1
    have I1 : Inv w σ h1 := S.inv.drp _
    have I2 : Inv w σ h2 := I1.rt (fun b x hb hp => by rw [(drp_some hb).2] at hp; cases hp)
    have hkeep : ∀ b x, h b = some x → isPre (s0 :: (q ++ [0]) ++ p) x.tag = false → isPre [k] x.tag = false → h2 b = some x := fun b x hb hp hk => rt_kept (drp_kept hb hp) hk
    have hnk : ∀ (t : Tag), isPre [k] (s0 :: t) = false := fun t => isPre_ne hks
    have hbk2 : h2 bk = some (.cells ch (s0 :: q)) := hkeep bk _ hbk pre_long (hnk _)
    have hmoved : ∀ b x rr, h b = some x → x.tag = k :: rr → h2 b = some (x.withTag (s0 :: (q ++ [0]) ++ p ++ rr)) := fun b x rr hb htg =>
      rt_moved (drp_kept hb (by rw [htg]; exact isPre_ne (Ne.symm hks))) htg
    have hback : ∀ b x, h2 b = some x → (h b = some x ∧ isPre [k] x.tag = false ∧ isPre (s0 :: (q ++ [0]) ++ p) x.tag = false) ∨ ∃ rr, x.tag = s0 :: (q ++ [0]) ++ p ++ rr := by
      intro b x hb
      obtain ⟨x0, hx0, hcase⟩ := rt_some hb
      obtain ⟨g1, g2⟩ := drp_some hx0
      rcases hcase with ⟨rr, _, rfl⟩ | ⟨g3, rfl⟩
      · exact .inr ⟨rr, Blk.tag_withTag _ _⟩
      · exact .inl ⟨g1, g3, g2⟩
    let h3 : Hp := Bw.stb bk (.cells (pre ++ c' ++ post) (s0 :: q)) h2
    have hstb : ∀ b, b ≠ bk → h3 b = h2 b := fun b hne => by show Bw.stb _ _ _ b = _; unfold Bw.stb; rw [if_neg hne]
    have hstbk : h3 bk = some (.cells (pre ++ c' ++ post) (s0 :: q)) := by show Bw.stb _ _ _ bk = _; unfold Bw.stb; rw [if_pos rfl]
    have I3 : Inv (setB w bk (pre ++ c' ++ post)) σ h3 := I2.stb (y := .cells (pre ++ c' ++ post) (s0 :: q)) hbk2 rfl rfl rfl hlen
    have hne_of : ∀ b x, h b = some x → x.tag ≠ s0 :: q → b ≠ bk := fun b x hb hx e => by
      subst e
      rw [hbk] at hb
      injection hb with hb
      exact hx (by rw [← hb]; rfl)
    have m7 := m6 σ h3 c' σ.le_refl (fun b blk qq hb htg hpre => by
      rw [hstb b (hne_of b blk hb (by rw [htg]; intro e; have := congrArg List.length e; simp at this))]
      exact hkeep b blk hb (by rw [htg]; exact pre_cases hpre) (by rw [htg]; exact hnk _)) (Rel.move σ.le_refl hvc (fun b blk qq hb htg => by
        rw [hstb b (hne_of b blk hb (by rw [htg]; intro e; injection e with e _; exact hks e))]
        rw [hmoved b blk qq hb (by rw [htg]; rfl)]
        simp) hr')
    obtain ⟨n1, n2⟩ := hfr w2 (pre ++ c' ++ post) σ h3 σ.le_refl (fun b blk rr hb htg hpre => by
      rw [hstb b (hne_of b blk hb (by rw [htg]; intro e; injection e with _ e; rw [isPre_iff.2 ⟨[], by rw [e]; simp⟩] at hpre; cases hpre))]
      exact hkeep b blk hb (by rw [htg]; exact pre_cases2 hpre) (by rw [htg]; exact hnk _)) hstbk m7
    have hown : Owns st s0 := ⟨r0, hr0, hrp, hrc⟩
    refine ⟨σ, h3, _, _, m1, ⟨by rw [setB_ext.2.2.2]; exact Nat.le_refl _, σ.le_refl, rfl, rfl, rfl, fun b hb hn => ?_⟩, ?_, rfl, rfl⟩
    · have hne : b ≠ bk := by rintro rfl; rw [hbk] at hn; cases hn
      exact ⟨setB_other hne, by rw [hstb b hne]; exact rt_none (drp_none hn), fun _ => rfl⟩
    · have gs : St.get [(s0, some (f ⟨.box w2.T, w2.x⟩)), (k, none)] s0 = some (f ⟨.box w2.T, w2.x⟩) := by rw [get_cons, if_pos rfl]
      have gk : St.get [(s0, some (f ⟨.box w2.T, w2.x⟩)), (k, none)] k = none := by rw [get_cons, if_neg (Ne.symm hks), get_cons, if_pos rfl]
      have hcl2 := (hfc w2).1 (mc hvc)
      have hou : OwnsU [(s0, some (f ⟨.box w2.T, w2.x⟩)), (k, none)] s0 := ⟨_, gs, (hfc w2).2.1, hcl2⟩
      have hhas : ∀ l, hasS [(s0, some (f ⟨.box w2.T, w2.x⟩)), (k, none)] l = true → l = s0 ∨ l = k := fun l hl => by
        simp only [hasS, Bool.or_false, Bool.or_eq_true] at hl
        rcases hl with hl | hl
        · exact .inl (beq_iff.1 hl).symm
        · exact .inr (beq_iff.1 hl).symm
      have hnot : ∀ l, hasS [(s0, some (f ⟨.box w2.T, w2.x⟩)), (k, none)] l = false → s0 ≠ l ∧ k ≠ l := fun l hl => by
        simp only [hasS, Bool.or_false, Bool.or_eq_false_iff] at hl
        exact ⟨fun e => by rw [e] at hl; simp at hl, fun e => by rw [e] at hl; simp at hl⟩
      refine SRel.upd2 S _ _ σ.le_refl I3 ?_ ?_ ?_ ⟨rfl, fun _ _ => rfl⟩ ?_
      · intro b blk l rr hb htg hl
        obtain ⟨g1, g2⟩ := hnot l hl
        rw [hstb b (hne_of b blk hb (by rw [htg]; intro e; injection e with e _; exact g1 e.symm))]
        exact hkeep b blk hb (by rw [htg]; exact isPre_ne g1) (by rw [htg]; exact isPre_ne g2)
      · intro b blk hb
        by_cases hne : b = bk
        · subst hne
          rw [hstbk] at hb
          injection hb with hb
          subst hb
          exact ⟨s0, q, rfl, fun _ => hou, fun hl => by simp [hasS] at hl⟩
        · rw [hstb b hne] at hb
          rcases hback b blk hb with ⟨g1, g2, g3⟩ | ⟨rr, g1⟩
          · obtain ⟨l, rr, e1, _⟩ := S.own b blk g1
            refine ⟨l, rr, e1, fun hl => ?_, fun _ => g1⟩
            rcases hhas l hl with rfl | rfl
            · exact hou
            · rw [e1, isPre_single] at g2; cases g2
          · exact ⟨s0, _, g1, fun _ => hou, fun hl => by simp [hasS] at hl⟩
      · intro l x hl hx
        rcases hhas l hl with rfl | rfl
        · rw [gs] at hx
          injection hx with hx
          subst hx
          exact ⟨(S.vals _ _ hr0).1, ⟨cs, by rw [(hfc w2).2.2]; exact hwr, n1⟩, .inl hcl2⟩
        · rw [gk] at hx; cases hx
      · intro s' v' l rr hs' hns hlk hl hok hdead
        rcases hhas l hl with rfl | rfl
        · have hal := alive hlk hdead (c := l :: (q ++ [0]) ++ p) (by simp)
          refine ⟨⟨fun b cs0 hb => ?_, fun b cs0 hb => ?_, fun b cs0 hb => ?_, fun hn b blk hb => ?_⟩, hou⟩
          · by_cases hne : b = bk
            · subst hne
              rw [hbk] at hb
              injection hb with hb
              injection hb with _ hb
              exact ⟨_, by rw [hstbk, hb]⟩
            · exact ⟨cs0, by rw [hstb b hne]; exact hkeep b _ hb hal (hnk _)⟩
          · have hne : b ≠ bk := by rintro rfl; rw [hbk] at hb; cases hb
            rw [hstb b hne]; exact hkeep b _ hb hal (hnk _)
          · have hne : b ≠ bk := by rintro rfl; rw [hbk] at hb; cases hb
            rw [hstb b hne]; exact hkeep b _ hb hal (hnk _)
          · by_cases hne : b = bk
            · subst hne
              rw [hstbk] at hb
              injection hb with hb
              subst hb
              exact fun e => hn b (.cells ch (l :: q)) hbk e
            · rw [hstb b hne] at hb
              rcases hback b blk hb with ⟨g1, _⟩ | ⟨rr', g1⟩
              · exact hn b blk g1
              · intro e
                rw [e] at g1
                rw [isPre_iff.2 ⟨rr', g1⟩] at hal; cases hal
        · rw [dead_of hlk (c := [l]) (by simp) isPre_single] at hdead; cases hdead
  · simp at hK
end
end Go.Proofs.Bw
namespace Go.Proofs.Bw
open Go

theorem EList.append {α : Type} {R : α → List Value → Prop} : ∀ {xs ys : List α} {cs ds : List Value}, EList R xs cs → EList R ys ds → EList R (xs ++ ys) (cs ++ ds)
  | [], _, cs, ds, h, k => by rw [show cs = [] from h]; exact k
  | _ :: _, _, _, _, ⟨c, d, e, h1, h2⟩, k => ⟨c, d ++ _, by rw [e, List.append_assoc], h1, EList.append h2 k⟩

section
variable {P : Program} {R : Type} {σ σ' : Sg} {h h' : Hp} {st : St} {a : Act} {w w' : World} {K : St → List Tag → Option R} {r : R} {o : Oper} {Q : Exit → Act → World → Prop} {tab : Tab}

/-- a slot's value is used up, a fresh slot's comes -/
theorem SRel.swap {tm : Array Value} (S : SRel σ h st tm w) {d s : Nat} {v : SV} {val : Value} (hf : fresh st.get d = true) (hds : d ≠ s) (hsz : d < tm.size) (hσ : σ.le σ') (I : Inv w' σ' h')
    (ha : ∀ b blk k q, h b = some blk → blk.tag = k :: q → k ≠ s → h' b = some blk)
    (hb : ∀ b blk, h' b = some blk → (h b = some blk ∧ ∀ q, blk.tag ≠ s :: q) ∨ ((∃ q, blk.tag = d :: q) ∧ v.T.pure = false))
    (hv : VRel σ' h' v.T v.x val [d]) (hcl : v.T.closed = true) :
    SStep h st tm [(d, some v), (s, none)] [[s]] σ' h' (tm.setIfInBounds d val) w' := by
  have hno := not_owns_of_fresh hf
  have gd : St.get [(d, some v), (s, none)] d = some v := by rw [get_cons, if_pos rfl]
  have gs : St.get [(d, some v), (s, none)] s = none := by rw [get_cons, if_neg hds, get_cons, if_pos rfl]
  have hhas : ∀ k, hasS [(d, some v), (s, none)] k = true → k = d ∨ k = s := fun k hk => by
    simp only [hasS, Bool.or_false, Bool.or_eq_true] at hk
    rcases hk with hk | hk
    · exact .inl (beq_iff.1 hk).symm
    · exact .inr (beq_iff.1 hk).symm
  have hnot : ∀ k, hasS [(d, some v), (s, none)] k = false → d ≠ k ∧ s ≠ k := fun k hk => by
    simp only [hasS, Bool.or_false, Bool.or_eq_false_iff] at hk
    exact ⟨fun e => by rw [e] at hk; simp at hk, fun e => by rw [e] at hk; simp at hk⟩
  have hnd : ∀ b x q, h b = some x → x.tag ≠ d :: q := fun b x q hb e => by
    obtain ⟨k, r, e2, ho⟩ := S.own b x hb
    rw [e] at e2; injection e2 with e2 _
    exact hno (by rw [e2]; exact ho)
  refine SRel.upd2 S _ _ hσ I ?_ ?_ ?_ ⟨by simp, fun k hk => ?_⟩ ?_
  · exact fun b blk k q hbk ht hk => ha b blk k q hbk ht (Ne.symm (hnot k hk).2)
  · intro b blk hbk
    rcases hb b blk hbk with ⟨h1, h2⟩ | ⟨⟨q, h1⟩, h2⟩
    · obtain ⟨k, q, e, ho⟩ := S.own b blk h1
      refine ⟨k, q, e, fun hk => ?_, fun _ => h1⟩
      rcases hhas k hk with rfl | rfl
      · exact (hnd b blk q h1 e).elim
      · exact (h2 q e).elim
    · exact ⟨d, q, h1, fun _ => ⟨v, gd, h2, hcl⟩, fun hk => by simp [hasS] at hk⟩
  · intro k x hk hx
    rcases hhas k hk with rfl | rfl
    · rw [gd] at hx
      injection hx with hx
      subst hx
      rw [getD_set, if_pos ⟨rfl, hsz⟩]
      exact ⟨by simpa using hsz, hv, .inl hcl⟩
    · rw [gs] at hx; cases hx
  · rw [getD_set, if_neg (fun hh => (hnot k hk).1 hh.1)]
  · intro s' x k q hs' hns hl hk hok hdead
    exfalso
    rcases hhas k hk with rfl | rfl
    · exact hno hok
    · rw [dead_of hl (c := [k]) (by simp) isPre_single] at hdead; cases hdead

/-- what is appended -/
def Src (P : Program) (w : World) (size : Nat) (x : Value) (m : Nat) (news : List Value) : Prop :=
  ∀ w', w'.heap = w.heap → (Builtin.lenOf x).run P w' = .ok m w' ∧ (Builtin.firstCells size m x).run P w' = .ok ⟨news⟩ w'

theorem append_room {t u ty e : TypeId} {i : TypeInfo} (ht : P.underlying t = some (.slice e)) (hu : (∃ e', P.underlying u = some (.slice e')) ∨ P.underlying u = some .string) (hi : P.info? e = some i) {ad : Option Addr} {n cap m : Nat} {x : Value} {news : List Value}
    (hs : Src P w i.size x m news) (hle : n + m ≤ cap) {w' : World} (hst : ∀ b, ad = some b → (storeCells (b.add (n * i.size)) news).run P w = .ok () w') (hn : ad = none → w' = w) :
    (Builtin.append_ #[t, u] ty #[.slice ad n cap, x]).run P w = .ok (.slice ad (n + m) cap) w' := by
  obtain ⟨h1, h2⟩ := hs w rfl
  cases ad with
  | none =>
    rw [hn rfl]
    rcases hu with ⟨e', hd⟩ | hd <;> simp [Builtin.append_, run_underlying ht, run_underlying hd, sizeOf, typeInfo, hi, h1, hle, h2]
  | some b =>
    have := hst b rfl
    rcases hu with ⟨e', hd⟩ | hd <;> simp [Builtin.append_, run_underlying ht, run_underlying hd, sizeOf, typeInfo, hi, h1, hle, h2, this]

theorem append_grow {t u ty e : TypeId} {i : TypeInfo} {z : Value} (ht : P.underlying t = some (.slice e)) (hu : (∃ e', P.underlying u = some (.slice e')) ∨ P.underlying u = some .string) (hi : P.info? e = some i) (hz : i.zero = some z) {ad : Option Addr} {n cap m : Nat} {x : Value} {news olds : List Value}
    (hs : Src P w i.size x m news) (ho : ∀ w', w'.heap = w.heap → (Builtin.firstCells i.size n (.slice ad n cap)).run P w' = .ok ⟨olds⟩ w') (hgt : cap < n + m) (h63 : n + m ≤ maxLen) (hfit : (n + m) * i.bytes ≤ 140737488355328) :
    (Builtin.append_ #[t, u] ty #[.slice ad n cap, x]).run P w = .ok (.slice (some ⟨w.heap.size, 0, none⟩) (n + m) (grownCap w (n + m) cap e))
      (w.drew.alloc (.cells (⟨olds⟩ ++ ⟨news⟩ ++ Builtin.zeroCells z.cells (grownCap w (n + m) cap e - (n + m))) e)) := by
  obtain ⟨h1, _⟩ := hs w rfl
  obtain ⟨_, h2⟩ := hs w.drew rfl
  have h3 := ho w.drew rfl
  have hn : ¬ (n + m ≤ cap) := by omega
  have h63' : ¬ (9223372036854775807 < ((n : Int) + (m : Int))) := by simp only [maxLen] at h63; omega
  have hfit' := growslice_fits (by omega : cap < n + m) hfit
  have h48' : ¬ (281474976710656 < Builtin.nextslicecap (n + m) cap * i.bytes) := by omega
  rcases hu with ⟨e', hd⟩ | hd <;> simp [Builtin.append_, run_underlying ht, run_underlying hd, sizeOf, typeInfo, zeroValue, hi, hz, h1, hn, h63', h48', Question.forced, h2, h3, newRow, grownCap] <;> (congr 2; apply Array.ext'; simp)

theorem firstCells_of {size m : Nat} {ad : Option Addr} {n cap : Nat} {news : List Value} (hl : news.length = m * size) (hc : news ≠ [] → ∃ b off, ad = some ⟨b, off, none⟩ ∧ ∀ j v, news[j]? = some v → w.cell? ⟨b, off + j, none⟩ = some v) :
    ∀ w', w'.heap = w.heap → (Builtin.firstCells size m (.slice ad n cap)).run P w' = .ok ⟨news⟩ w' := by
  intro w' hw
  by_cases hn : news = []
  · subst hn
    have h0 : m * size = 0 := by simpa using hl.symm
    cases ad with
    | none => simp [Builtin.firstCells]
    | some b => simp [Builtin.firstCells, h0, loadCells, loadCellsFrom]
  · obtain ⟨b, off, rfl, hcell⟩ := hc hn
    simp only [Builtin.firstCells]
    rw [← hl]
    exact run_loadCells_list (P := P) w' _ news (fun j v hj => by rw [addr_add, cell?_eq (w := w) (by rw [hw])]; exact hcell j v hj)
theorem castL_rel {A B : Ty} (hab : A.beq B = true) {x : List A.den} {cs : List Value} {t : Tag} (hr : EList (fun u c => Rel σ h A false u c t) x cs) : EList (fun u c => Rel σ h B false u c t) (castL hab x) cs ∧ (castL hab x).length = x.length := by
  have := Ty.eq_of_beq hab
  subst this
  exact ⟨hr, rfl⟩

/-- the source's cells -/
theorem src_of (S : SRel σ h st a.tmps w) {b : Opd} {x : Operand} (hx : opdOk b x = true) (hnc : ∀ u, b = .c u → u.T.okTop = true) {v : SV} (hv : gpo st.get b = some v) {e : Ty} {y : List e.den} (he : elems e v = some y) :
    ∃ news tg, EList (fun u c => Rel σ h e false u c tg) y news ∧ Src P w e.size (a.eval x) y.length news ∧ (e.pure = true ∨ y = []) := by
  obtain ⟨tg, ⟨cc, hw, hr⟩, hok0, hx9⟩ := gpo_rel S hx hv
  clear hx9
  have hok : v.T.okTop = true := by
    rcases hok0 with hok | ⟨u, rfl⟩
    · exact hok
    · simp only [gpo, Option.some.injEq] at hv; rw [← hv]; exact hnc u rfl
  clear hok0
  unfold elems at he
  split at he
  · rename_i z c A xs
    split at he
    · rename_i hb
      simp only [Option.some.injEq] at he
      subst he
      simp only [Rel] at hr
      obtain ⟨ad, len, cap, e1, e2, e3, e4, d, e5, e6⟩ := hr
      have hxv : a.eval x = .slice ad len cap := by have := slot_single rfl hw; rw [this] at e1; injection e1
      obtain ⟨g1, g2⟩ := castL_rel hb e5
      have hse : A.size = e.size := by rw [Ty.eq_of_beq hb]
      refine ⟨d, _, g1, fun w' hw' => ?_, .inl (by rw [← Ty.eq_of_beq hb]; simpa [Ty.okTop, Ty.closed] using hok)⟩
      rw [hxv, g2]
      have hl := EList.length (n := A.size) (fun _ _ hh => Rel.length hh) e5
      refine ⟨by rw [e3]; rfl, firstCells_of (w := w) (by rw [hl, hse]) (fun hd => ?_) w' hw'⟩
      obtain ⟨bk, off, f1, f2⟩ := e6 hd
      exact ⟨bk, off, f1, fun j u hj => S.inv.sta _ _ _ (f2 j u hj)⟩
    · cases he
  · rename_i z t A xs
    split at he
    · rename_i hb
      simp only [Option.some.injEq] at he
      subst he
      simp only [Rel] at hr
      obtain ⟨ad, len, cap, e1, e2, e3, e4⟩ := hr
      have hxv : a.eval x = .slice ad len cap := by have := slot_single rfl hw; rw [this] at e1; injection e1
      have hse : A.size = e.size := by rw [Ty.eq_of_beq hb]
      have hpe : e.pure = true := by rw [← Ty.eq_of_beq hb]; simpa [Ty.okTop] using hok
      rcases e4 with e4 | ⟨bk, off, ch, f1, f2, f3, f4⟩
      · obtain ⟨xs, rfl⟩ : ∃ l : List A.den, l = xs := ⟨xs, rfl⟩
        have hx0 : xs = ([] : List A.den) := List.eq_nil_of_length_eq_zero (by rw [← e3]; exact e4)
        subst hx0
        obtain ⟨g1, g2⟩ := castL_rel (σ := σ) (h := h) (t := tg ++ [3]) hb (x := ([] : List A.den)) (cs := []) rfl
        refine ⟨[], _, g1, fun w' hw' => ?_, .inl hpe⟩
        rw [hxv, g2]
        exact ⟨by rw [e3]; rfl, firstCells_of (w := w) (by simp) (fun hd => (hd rfl).elim) w' hw'⟩
      · obtain ⟨g1, g2⟩ := castL_rel hb f4
        refine ⟨_, _, g1, fun w' hw' => ?_, .inl hpe⟩
        rw [hxv, g2]
        have hl := EList.length (n := A.size) (fun _ _ hh => Rel.length hh) f4
        refine ⟨by rw [e3]; rfl, firstCells_of (w := w) (by rw [hl, hse]) (fun hd => ?_) w' hw'⟩
        refine ⟨bk, off, f1, fun j u hj => ?_⟩
        rw [cell_at S.inv f2 rfl]
        rw [List.getElem?_take] at hj
        split at hj
        · rw [List.getElem?_drop] at hj; exact hj
        · simp at hj
    · cases he
  · rename_i xs
    split at he
    · rename_i hb
      simp only [Option.some.injEq] at he
      subst he
      obtain ⟨s, hxv, hxs, hsz⟩ := opd_str S hx (gpo_opv hv rfl)
      have hrel : EList (fun u c => Rel σ h (.int .u8) false u c tg) (ints s) (s.data.toList.map fun b => Value.int .u8 b.toNat) := by
        unfold ints
        induction s.data.toList with
        | nil => rfl
        | cons c l ih => exact ⟨[.int .u8 c.toNat], _, rfl, by simp only [Rel]; exact ⟨trivial, byte_in c⟩, ih⟩
      rw [hxs] at hrel
      obtain ⟨g1, g2⟩ := castL_rel (A := .int .u8) hb hrel
      refine ⟨_, _, g1, fun w' _ => ?_, .inl (by rw [← Ty.eq_of_beq hb]; rfl)⟩
      rw [hxv, g2]
      have hsz1 : e.size = 1 := by rw [← Ty.eq_of_beq hb]; rfl
      have hl : ∀ l : List Int, ints s = l → l.length = s.size := fun l hl => by rw [← hl, ints_length]
      generalize hn : List.length (α := (Ty.int .u8).den) xs = n
      have hn' : n = s.size := hn.symm.trans (hl xs hxs)
      subst hn'
      refine ⟨rfl, ?_⟩
      simp only [Builtin.firstCells, Sem.run_pure]
      have hext : s.extract 0 s.size = s := by simp
      rw [hext]
      congr 1
      apply Array.ext'
      simp
    · cases he
  · simp only [Option.some.injEq] at he
    subst he
    simp only [Rel, nilVal] at hr
    have hxv : a.eval x = .slice none 0 0 := by have := slot_single rfl hw; rw [this] at hr; injection hr
    refine ⟨[], tg, rfl, fun w' _ => ?_, .inr rfl⟩
    rw [hxv]
    exact ⟨rfl, by simp [Builtin.firstCells]⟩
  · cases he
end
end Go.Proofs.Bw
namespace Go.Proofs.Bw
open Go

section
variable {P : Program} {R : Type} {σ : Sg} {h : Hp} {st : St} {a : Act} {w : World} {K : St → List Tag → Option R} {r : R} {o : Oper} {Q : Exit → Act → World → Prop} {tab : Tab}

/-- a slice type whose element has so many cells and bytes, and a zero value of so many cells -/
def tabApp (tab : Tab) (t es eb : Nat) : Bool := match tab.get t with
  | some i => (match descSl i.desc with
    | some e => (match tab.get e with
      | some j => Nat.beq j.size es && Nat.beq j.bytes eb && Nat.beq j.zero.cells.size es
      | none => false)
    | none => false)
  | none => false
theorem tabApp_ok (ht : TabOk P tab) {t es eb : Nat} (hs : tabApp tab t es eb = true) : ∃ e j z, P.underlying t = some (.slice e) ∧ P.info? e = some j ∧ j.size = es ∧ j.bytes = eb ∧ j.zero = some z ∧ z.cells.size = es := by
  unfold tabApp at hs
  split at hs
  · rename_i i hi
    split at hs
    · rename_i e he
      split at hs
      · rename_i j hj
        simp only [Bool.and_eq_true] at hs
        obtain ⟨⟨h1, h2⟩, h3⟩ := hs
        obtain ⟨hu, _⟩ := ht t i hi
        obtain ⟨_, j', g1, g2, g3, g4⟩ := ht e j hj
        refine ⟨e, j', j.zero, ?_, g1, g2.trans (Nat.eq_of_beq_eq_true h1), g3.trans (Nat.eq_of_beq_eq_true h2), g4, Nat.eq_of_beq_eq_true h3⟩
        rw [hu]
        revert he
        cases i.desc <;> simp [descSl]
      · simp at hs
    · simp at hs
  · simp at hs
def tabSS (tab : Tab) (u : Nat) : Bool := tabD tab u fun d => descIsSl d || descStr d
theorem tabSS_ok (ht : TabOk P tab) {u : Nat} (hs : tabSS tab u = true) : (∃ e', P.underlying u = some (.slice e')) ∨ P.underlying u = some .string := by
  obtain ⟨d, hu, hd⟩ := tabD_ok ht hs
  rcases Bool.or_eq_true _ _ |>.mp hd with h1 | h1
  · obtain ⟨e, rfl⟩ := descIsSl_eq h1; exact .inl ⟨e, hu⟩
  · rw [descStr_eq h1] at hu; exact .inr hu
theorem zeroCells_len {z : Array Value} {n m : Nat} (hz : z.size = m) : (Builtin.zeroCells z n).size = n * m := by
  subst hz
  unfold Builtin.zeroCells
  simp
theorem appK_some {n m eb : Nat} {K : Option R} (hk : appK n m eb K = some r) : (n + m) * eb ≤ 140737488355328 ∧ K = some r := by
  unfold appK at hk
  split at hk
  · rename_i h1; exact ⟨h1, hk⟩
  · cases hk
theorem SlOk.grow {z : Nm} {ad : Option Addr} {n cap m : Nat} (hk : SlOk z ad n cap) (hle : n + m ≤ cap) : SlOk z ad (n + m) cap := by
  obtain ⟨h1, h2, h3, h4⟩ := hk
  refine ⟨hle, h2, h3, ?_⟩
  cases z with
  | U => trivial
  | S => exact h4
  | N => exact ⟨fun e => by have := h2 e; omega, fun e => h4.2 (by omega)⟩
theorem SlOk.new {z : Nm} {b n cap : Nat} (hn : 0 < n) (hle : n ≤ cap) (h63 : cap ≤ maxLen) : SlOk z (some ⟨b, 0, none⟩) n cap := by
  refine ⟨hle, fun e => (by cases e), h63, ?_⟩
  cases z with
  | U => trivial
  | S => simp
  | N => exact ⟨fun e => by simp at e, fun e => by omega⟩
theorem EList.pureL {σ σ' : Sg} {h h' : Hp} {e : Ty} {t t' : Tag} (hσ : σ.le σ') (hp : e.pure = true) {xs : List e.den} {cs : List Value} (k : EList (fun y c => Rel σ h e false y c t) xs cs) : EList (fun y c => Rel σ' h' e false y c t') xs cs :=
  k.imp fun _ _ hr => Rel.pure hσ hp hr
theorem grow_fit {n m eb : Nat} (h1 : 1 ≤ eb) (hf : (n + m) * eb ≤ 140737488355328) : n + m ≤ maxLen := by
  have : (n + m) * 1 ≤ (n + m) * eb := Nat.mul_le_mul_left _ h1
  simp only [maxLen]; omega

theorem op_app {d s : Nat} {b : Opd} {eb es : Nat} {t u : TypeId} {x y : Operand} (ht : TabOk P tab) (S : SRel σ h st a.tmps w) (hop : o.op = .call { callee := .builtin .append, args := #[x, y], argTypes := #[t, u] })
    (hd : dstOk a.tmps.size o d = true) (hx : opdOk (.t s) x = true) (hy : opdOk b y = true) (hnc : ∀ u, b = .c u → u.T.okTop = true)
    (hs : tabApp tab t es eb = true) (hu : tabSS tab u = true)
    (hK : evOp st.get K (.app d s b eb es) = some r) : o.wp P a w (Post σ h w st K r a) Q := by
  simp only [evOp] at hK
  split at hK
  · rename_i z e xs v hv hb
    obtain ⟨hc, hK1⟩ := bif_some hK
    simp only [Bool.and_eq_true, Bool.not_eq_true', Nat.ble_eq] at hc
    obtain ⟨⟨⟨hf, hds⟩, heb⟩, hes⟩ := hc
    have hes := Nat.eq_of_beq_eq_true hes
    subst hes
    have hds : d ≠ s := fun e => by rw [e] at hds; simp at hds
    obtain ⟨ys, he, hK⟩ : ∃ ys, elems e v = some ys ∧ appK (List.length (α := e.den) xs) ys.length eb (K [(d, some ⟨.slX z e, List.append (α := e.den) xs ys⟩), (s, none)] [[s]]) = some r := by
      clear hK
      split at hK1
      · exact ⟨_, by assumption, hK1⟩
      · cases hK1
    obtain ⟨hfit, hK⟩ := appK_some hK
    obtain ⟨el, j, zz, g1, g2, g3, g4, g5, g6⟩ := tabApp_ok ht hs
    obtain ⟨xs, rfl⟩ : ∃ l : List e.den, l = xs := ⟨xs, rfl⟩
    obtain ⟨h1, h2⟩ := dstOk_eq hd
    obtain ⟨hss, cc, hw, hr⟩ := S.vals s _ hv
    have hep : e.pure = true := by have := S.typ s _ hv; simpa [Ty.okTop, Ty.closed] using this
    simp only [Rel] at hr
    obtain ⟨ad, len, cap, e1, e2, e3, e4⟩ := hr
    have hxv : a.eval x = .slice ad len cap := by rw [opdT_eval (a := a) hx]; have := slot_single rfl hw; rw [this] at e1; injection e1
    obtain ⟨news, tg, n1, n2, _⟩ := src_of S hy hnc hb he
    have hnl : news.length = ys.length * e.size := EList.length (n := e.size) (fun _ _ hh => Rel.length hh) n1
    have hone : ∀ v ∈ news, v.oneCell' = true := Rel.one (T := .arr ys.length e) (x := ys) (t := []) (σ := σ) (h := h) (hard_of_pure hep) (by simp only [Rel]; exact ⟨trivial, EList.pureL σ.le_refl hep n1⟩)
    have h63 := grow_fit heb hfit
    have hu' := tabSS_ok ht hu
    rw [← e3] at hfit h63
    have fin : ∀ (val : Value) (w' : World) (h' : Hp), (Builtin.append_ #[t, u] o.type #[.slice ad len cap, a.eval y]).run P w = .ok val w' → Ext w σ h w' σ h' →
        SStep h st a.tmps [(d, some ⟨.slX z e, List.append (α := e.den) xs ys⟩), (s, none)] [[s]] σ h' (a.tmps.setIfInBounds d val) w' → o.wp P a w (Post σ h w st K r a) Q := by
      intro val w' h' hrun hE hS
      have hrun2 : (execOp a.eval o).run P w = .ok (.value val) w' := by
        unfold execOp
        rw [hop]
        simp [resolve, invoke, builtin, hxv, hrun]
      unfold Oper.wp
      rw [hrun2, Oper.upon_value, h1]
      exact ⟨σ, h', _, _, hK, hE, hS, rfl, by simp [Act.put]⟩
    have hcl : (⟨.slX z e, List.append (α := e.den) xs ys⟩ : SV).T.closed = true := by simpa [Ty.closed] using hep
    have hlen : List.length (α := e.den) (xs ++ ys) = len + ys.length := by rw [List.length_append, e3]
    by_cases hle : len + ys.length ≤ cap
    · by_cases hc0 : cap = 0
      · have hx0 : xs = [] := List.eq_nil_of_length_eq_zero (by omega)
        have hy0 : ys = [] := List.eq_nil_of_length_eq_zero (by omega)
        have hn0 : news = [] := List.eq_nil_of_length_eq_zero (by rw [hnl, hy0]; simp)
        have hrun := append_room (P := P) (ad := ad) (w := w) (w' := w) (ty := o.type) g1 hu' g2 (g3 ▸ n2) hle (fun b _ => by rw [hn0]; rfl) (fun _ => rfl)
        refine fin _ _ (drp [s] h) hrun ⟨Nat.le_refl _, σ.le_refl, rfl, rfl, rfl, fun _ _ hn => ⟨rfl, drp_none hn, fun _ => rfl⟩⟩ ?_
        refine SRel.swap S hf hds h2 σ.le_refl (S.inv.drp _) (fun b blk k q hb ht hk => drp_kept hb (by rw [ht]; exact isPre_ne (Ne.symm hk))) (fun b blk hb => .inl ⟨(drp_some hb).1, fun q e => ?_⟩) ?_ hcl
        · have := (drp_some hb).2
          rw [e, isPre_single] at this; cases this
        · refine ⟨_, rfl, ?_⟩
          simp only [Rel]
          exact ⟨ad, _, cap, rfl, e2.grow hle, hlen.symm, .inl hc0⟩
      · rcases e4 with e4 | ⟨bk, ch, f1, f2, f3, f4⟩
        · exact (hc0 e4).elim
        · subst f1
          have hmul : (len + ys.length) * e.size = len * e.size + ys.length * e.size := Nat.add_mul _ _ _
          have hcap : (len + ys.length) * e.size ≤ ch.length := by rw [f3]; exact Nat.mul_le_mul_right _ hle
          obtain ⟨et, lo, hi, k1, k2⟩ := S.inv.cells bk _ ch f2 rfl
          have hsplit : ch = ch.take (len * e.size) ++ (ch.drop (len * e.size)).take (ys.length * e.size) ++ ch.drop (len * e.size + ys.length * e.size) := by
            rw [List.append_assoc]
            conv => lhs; rw [← List.take_append_drop (len * e.size) ch]
            congr 1
            rw [← List.drop_drop, List.take_append_drop]
          have hl1 : (ch.take (len * e.size)).length = len * e.size := by rw [List.length_take]; omega
          have hl2 : ((ch.drop (len * e.size)).take (ys.length * e.size)).length = ys.length * e.size := by rw [List.length_take, List.length_drop]; omega
          have hsto := storeCells_run (P := P) (b := bk) (e := et) (lo := lo) (hi := hi) news (len * e.size) 0 (ch.take (len * e.size)) ((ch.drop (len * e.size)).take (ys.length * e.size)) (ch.drop (len * e.size + ys.length * e.size)) w
            (by rw [← hsplit]; exact k1) (by rw [← hsplit]; exact k2) (by rw [hl1]; rfl) (by rw [hl2, hnl]) hone
          have hrun := append_room (P := P) (ad := some ⟨bk, 0, none⟩) (w := w) (w' := setB w bk (ch.take (len * e.size) ++ news ++ ch.drop (len * e.size + ys.length * e.size))) (ty := o.type) g1 hu' g2 (g3 ▸ n2) hle
            (fun b hb => by injection hb with hb; rw [← hb, g3, addr_add, Nat.zero_add]; exact hsto) (fun hh => by cases hh)
          have f2' : rt [s] [d] h bk = some (.row ch [d]) := rt_moved (r := []) f2 rfl
          have I1 : Inv w σ (rt [s] [d] h) := S.inv.rt (fun b x hb hp => by
            obtain ⟨q, e⟩ := isPre_iff.1 hp
            exact (no_tag S hf hb (by simpa using e)).elim)
          have hlen' : (ch.take (len * e.size) ++ news ++ ch.drop (len * e.size + ys.length * e.size)).length = ch.length := by simp only [List.length_append, hl1, hnl, List.length_drop]; omega
          have I2 := I1.stb (y := .row (ch.take (len * e.size) ++ news ++ ch.drop (len * e.size + ys.length * e.size)) [d]) f2' rfl rfl rfl hlen'
          refine fin _ _ _ hrun ⟨by simp [setB, World.setRow], σ.le_refl, rfl, rfl, rfl, fun b hb hn => ?_⟩ (SRel.swap S hf hds h2 σ.le_refl I2 (fun b blk k q hb ht hk => ?_) (fun b blk hb => ?_) ?_ hcl)
          · have hne : b ≠ bk := by rintro rfl; rw [f2] at hn; cases hn
            refine ⟨setB_other hne, ?_, fun _ => rfl⟩
            unfold stb; rw [if_neg hne]; exact rt_none hn
          · have hne : b ≠ bk := by
              rintro rfl
              rw [f2] at hb; injection hb with hb; subst hb
              simp only [Blk.tag, List.cons.injEq] at ht
              exact hk ht.1.symm
            unfold stb; rw [if_neg hne]
            exact rt_kept hb (by rw [ht]; exact isPre_ne (Ne.symm hk))
          · unfold stb at hb
            split at hb
            · injection hb with hb; subst hb; exact .inr ⟨⟨[], rfl⟩, rfl⟩
            · obtain ⟨x0, hx0, hcase⟩ := rt_some hb
              rcases hcase with ⟨q, k3, rfl⟩ | ⟨k3, rfl⟩
              · exact .inr ⟨⟨q, by rw [Blk.tag_withTag]; rfl⟩, rfl⟩
              · exact .inl ⟨hx0, fun q e => by rw [e, isPre_single] at k3; cases k3⟩
          · refine ⟨_, rfl, ?_⟩
            simp only [Rel]
            refine ⟨_, _, cap, rfl, e2.grow hle, hlen.symm, .inr ⟨bk, _, rfl, by unfold stb; rw [if_pos rfl], by rw [hlen']; exact f3, ?_⟩⟩
            have htk : (ch.take (len * e.size) ++ news ++ ch.drop (len * e.size + ys.length * e.size)).take ((len + ys.length) * e.size) = ch.take (len * e.size) ++ news := by
              rw [List.take_append_of_le_length (by simp only [List.length_append, hl1, hnl]; omega), List.take_of_length_le (by simp only [List.length_append, hl1, hnl]; omega)]
            rw [htk]
            exact EList.append (EList.pureL σ.le_refl hep f4) (EList.pureL σ.le_refl hep n1)
    · have hgt : cap < len + ys.length := by omega
      obtain ⟨olds, o1, o2⟩ : ∃ olds, EList (fun y c => Rel σ h e false y c ([s] ++ [3])) xs olds ∧ ∀ w', w'.heap = w.heap → (Builtin.firstCells j.size len (.slice ad len cap)).run P w' = .ok ⟨olds⟩ w' := by
        rcases e4 with e4 | ⟨bk, ch, f1, f2, f3, f4⟩
        · have hx0 : xs = [] := List.eq_nil_of_length_eq_zero (by have := e2.1; omega)
          refine ⟨[], by rw [hx0]; rfl, firstCells_of (w := w) (by rw [e3, hx0]; simp) (fun hh => (hh rfl).elim)⟩
        · have hcap : len * e.size ≤ ch.length := by rw [f3]; exact Nat.mul_le_mul_right _ e2.1
          refine ⟨_, f4, firstCells_of (w := w) (by rw [List.length_take, g3]; omega) (fun _ => ⟨bk, 0, f1, fun k v hk => ?_⟩)⟩
          rw [cell_at S.inv f2 rfl, Nat.zero_add]
          rw [List.getElem?_take] at hk
          split at hk
          · exact hk
          · cases hk
      have hrun := append_grow (P := P) (w := w) (ty := o.type) g1 hu' g2 g5 (g3 ▸ n2) o2 hgt h63 (by rw [g4]; exact hfit)
      have hcg := grownCap_ge w (len + ys.length) cap el
      have hcm := grownCap_le_maxLen w (len + ys.length) cap el h63
      generalize hcap : grownCap w (len + ys.length) cap el = cap' at hrun hcg hcm
      have hol : olds.length = len * e.size := by rw [EList.length (n := e.size) (fun _ _ hh => Rel.length hh) o1, e3]
      obtain ⟨zs, hzs⟩ : ∃ zs : List Value, Builtin.zeroCells zz.cells (cap' - (len + ys.length)) = ⟨zs⟩ := ⟨_, rfl⟩
      have hzl : zs.length = (cap' - (len + ys.length)) * e.size := by
        have := zeroCells_len (n := cap' - (len + ys.length)) g6
        rw [hzs] at this
        exact this
      rw [hzs, show ((⟨olds⟩ : Array Value) ++ ⟨news⟩ ++ ⟨zs⟩) = ⟨olds ++ news ++ zs⟩ by apply Array.ext'; simp] at hrun
      have hw' : (w.drew.alloc (.cells ⟨olds ++ news ++ zs⟩ el)).heap = w.heap.push (.cells ⟨olds ++ news ++ zs⟩ el (0, 0)) := rfl
      have I1 : Inv (w.drew.alloc (.cells ⟨olds ++ news ++ zs⟩ el)) σ ((drp [s] h).add w.heap.size (.row (olds ++ news ++ zs) [d])) :=
        (S.inv.drp [s]).addBlk hw' (.inr (Nat.le_refl _)) rfl (fun b x hb => no_tag S hf (drp_some hb).1)
      refine fin _ _ _ hrun ⟨by rw [hw']; simp, σ.le_refl, rfl, rfl, rfl, fun b hb hn => ⟨push_old hw' hb, ?_, fun _ => rfl⟩⟩ (SRel.swap S hf hds h2 σ.le_refl I1 (fun b blk k q hb ht hk => ?_) (fun b blk hb => ?_) ?_ hcl)
      · unfold Hp.add; rw [if_neg (by omega)]; exact drp_none hn
      · unfold Hp.add; rw [if_neg (by have := S.inv.lt hb; omega)]
        exact drp_kept hb (by rw [ht]; exact isPre_ne (Ne.symm hk))
      · unfold Hp.add at hb
        split at hb
        · injection hb with hb; subst hb; exact .inr ⟨⟨[], rfl⟩, rfl⟩
        · exact .inl ⟨(drp_some hb).1, fun q e => by have := (drp_some hb).2; rw [e, isPre_single] at this; cases this⟩
      · refine ⟨_, rfl, ?_⟩
        simp only [Rel]
        refine ⟨_, _, cap', rfl, SlOk.new (by omega) hcg hcm, hlen.symm, .inr ⟨w.heap.size, _, rfl, by unfold Hp.add; rw [if_pos rfl], ?_, ?_⟩⟩
        · simp only [List.length_append, hol, hnl, hzl]
          rw [← Nat.add_mul, ← Nat.add_mul]
          congr 1; omega
        · have htk : (olds ++ news ++ zs).take ((len + ys.length) * e.size) = olds ++ news := by
            rw [List.take_append_of_le_length (by simp only [List.length_append, hol, hnl, Nat.add_mul]; omega), List.take_of_length_le (by simp only [List.length_append, hol, hnl, Nat.add_mul]; omega)]
          rw [htk]
          exact EList.append (EList.pureL σ.le_refl hep o1) (EList.pureL σ.le_refl hep n1)
  · cases hK
end
end Go.Proofs.Bw
namespace Go.Proofs.Bw
open Go

section
variable {R : Type}
theorem getK_nat {T : Ty} {x : T.den} {p : Tag} {i : Int} (K : SV → Option R) : getK T x p i K = (getK T x p i some).bind K := by
  induction T generalizing p with
  | box e ih => rcases p with _ | ⟨k, p⟩ <;> first | rfl | (rcases k with _ | k <;> first | exact ih | rfl)
  | pair a b iha ihb => rcases p with _ | ⟨k, p⟩ <;> first | rfl | (rcases k with _ | _ | _ | k <;> first | exact iha | exact ihb | rfl)
  | arr n e ih =>
    rcases p with _ | ⟨k, p⟩ <;> first | rfl | (rcases k with _ | _ | _ | _ | k <;> first | rfl | skip)
    show ((lnth (α := e.den) x i).bind fun v => getK e v p i K) = ((lnth (α := e.den) x i).bind fun v => getK e v p i some).bind K
    cases lnth (α := e.den) x i with
    | none => rfl
    | some v => exact ih
  | _ => rcases p with _ | ⟨k, p⟩ <;> rfl
theorem bind_nat {α : Type} (o : Option α) (f : α → SV) (K : SV → Option R) : (o.bind fun w => K (f w)) = (o.bind fun w => some (f w)).bind K := by cases o <;> rfl
theorem bif_nat {b : Bool} {v : SV} (K : SV → Option R) : (bif b then K v else none) = (bif b then some v else none).bind K := by cases b <;> rfl
theorem setK_nat {T : Ty} {x : T.den} {p : Tag} {i : Int} {v : SV} (K : SV → Option R) : setK T x p i v K = (setK T x p i v some).bind K := by
  induction T generalizing p R with
  | box e ih =>
    rcases p with _ | ⟨k, p⟩
    · exact bif_nat K
    · rcases k with _ | k
      · show setK e x p i v (fun w => K ⟨.box w.T, w.x⟩) = (setK e x p i v fun w => some ⟨.box w.T, w.x⟩).bind K
        exact (ih _).trans ((bind_nat _ _ K).trans (congrArg (·.bind K) (ih _).symm))
      · rfl
  | pair a b iha ihb =>
    rcases p with _ | ⟨k, p⟩
    · exact bif_nat K
    · rcases k with _ | _ | _ | k
      · rfl
      · show setK a x.1 p i v (fun w => K ⟨.pair w.T b, (w.x, x.2)⟩) = (setK a x.1 p i v fun w => some ⟨.pair w.T b, (w.x, x.2)⟩).bind K
        exact (iha _).trans ((bind_nat _ _ K).trans (congrArg (·.bind K) (iha _).symm))
      · show setK b x.2 p i v (fun w => K ⟨.pair a w.T, (x.1, w.x)⟩) = (setK b x.2 p i v fun w => some ⟨.pair a w.T, (x.1, w.x)⟩).bind K
        exact (ihb _).trans ((bind_nat _ _ K).trans (congrArg (·.bind K) (ihb _).symm))
      · rfl
  | arr n e ih =>
    rcases p with _ | ⟨k, p⟩
    · exact bif_nat K
    · rcases k with _ | _ | _ | _ | k
      · rfl
      · rfl
      · rfl
      · rcases p with _ | ⟨j, p⟩
        · show (if h : v.T.beq e = true then K ⟨.arr n e, lset (α := e.den) x i (Ty.cast h v.x)⟩ else none) = Option.bind (if h : v.T.beq e = true then some (⟨.arr n e, lset (α := e.den) x i (Ty.cast h v.x)⟩ : SV) else none) K
          split <;> rfl
        · show ((lnth (α := e.den) x i).bind fun y => setK e y (j :: p) i v fun w => if h : w.T.beq e = true then K ⟨.arr n e, lset (α := e.den) x i (Ty.cast h w.x)⟩ else none) =
            ((lnth (α := e.den) x i).bind fun y => setK e y (j :: p) i v fun w => if h : w.T.beq e = true then some ⟨.arr n e, lset (α := e.den) x i (Ty.cast h w.x)⟩ else none).bind K
          cases lnth (α := e.den) x i with
          | none => rfl
          | some y =>
            refine (ih _).trans (Eq.trans ?_ (congrArg (·.bind K) (ih _).symm))
            cases setK e y (j :: p) i v some with
            | none => rfl
            | some w =>
              show (if h : w.T.beq e = true then K ⟨.arr n e, lset (α := e.den) x i (Ty.cast h w.x)⟩ else none) = Option.bind (if h : w.T.beq e = true then some (⟨.arr n e, lset (α := e.den) x i (Ty.cast h w.x)⟩ : SV) else none) K
              split <;> rfl
      · rfl
  | _ =>
    rcases p with _ | ⟨k, p⟩
    · exact bif_nat K
    · rfl
end

/-- what comes does not depend on what is done with it -/
def N {α : Type} (F : (R : Type) → (α → Option R) → Option R) : Prop := ∀ R K, F R K = (F α some).bind K
section
variable {α β : Type}
theorem N_leaf (a : α) : N fun R (K : α → Option R) => K a := fun _ _ => rfl
theorem N_none : N fun R (_ : α → Option R) => none := fun _ _ => rfl
theorem N_comp {F : (R : Type) → (β → Option R) → Option R} {G : β → (R : Type) → (α → Option R) → Option R} (h : N F) (k : ∀ b, N (G b)) : N fun R K => F R fun b => G b R K := by
  intro R K
  show F R (fun b => G b R K) = (F α fun b => G b α some).bind K
  rw [h R, h α]
  cases F β some with
  | none => rfl
  | some b => exact k b R K
variable {F G : (R : Type) → (α → Option R) → Option R} {H : β → (R : Type) → (α → Option R) → Option R}
theorem N_bif (b : Bool) (h : N F) (k : N G) : N fun R K => bif b then F R K else G R K := by cases b; exact k; exact h
theorem N_ite {c : Prop} [Decidable c] (h : N F) (k : N G) : N fun R K => if c then F R K else G R K := by
  by_cases hc : c
  · simp only [hc, if_true]; exact h
  · simp only [hc, if_false]; exact k
theorem N_dite {c : Prop} [Decidable c] {J : c → (R : Type) → (α → Option R) → Option R} (h : ∀ hc, N (J hc)) : N fun R K => if hc : c then J hc R K else none := by
  by_cases hc : c
  · simp only [hc, dite_true]; exact h hc
  · simp only [hc, dite_false]; exact N_none
theorem N_bind (o : Option β) (h : ∀ a, N (H a)) : N fun R K => o.bind fun a => H a R K := by
  cases o with
  | none => exact N_none
  | some a => exact h a
theorem N_optM (o : Option β) (k : N G) (h : ∀ a, N (H a)) : N fun R K => optM o (G R K) fun a => H a R K := by
  cases o with
  | none => exact k
  | some a => exact h a
theorem N_idxK (l : List β) (i : Int) (h : ∀ a, N (H a)) : N fun R K => idxK l i fun a => H a R K := N_ite (N_bind _ h) N_none
theorem N_inK' (i : Int) (n : Nat) (h : N F) : N fun R K => inK' i n (F R K) := N_ite h N_none
theorem N_leK (i n : Nat) (h : N F) : N fun R K => leK i n (F R K) := N_ite h N_none
theorem N_sliceK (l h : Int) (n : Nat) (k : N F) : N fun R K => sliceK l h n (F R K) := N_ite k N_none
theorem N_nzK (l : Int) (k : N F) : N fun R K => nzK l (F R K) := N_ite N_none k
theorem N_geK (l : Int) (k : N F) : N fun R K => geK l (F R K) := N_ite k N_none
theorem N_eqK (a b : Int) (k : N F) : N fun R K => eqK a b (F R K) := N_ite k N_none
theorem N_mkK (a b : Int) (n : Nat) (k : N F) : N fun R K => mkK a b n (F R K) := N_ite k N_none
theorem N_appK (a b n : Nat) (k : N F) : N fun R K => appK a b n (F R K) := N_ite k N_none
end
theorem N_getK (T : Ty) (x : T.den) (p : Tag) (i : Int) : N fun R K => getK (R := R) T x p i K := fun _ _ => getK_nat _
theorem N_setK (T : Ty) (x : T.den) (p : Tag) (i : Int) (v : SV) : N fun R K => setK (R := R) T x p i v K := fun _ _ => setK_nat _
abbrev UK := St × List Tag
theorem N_put (g : Nat → Option SV) (d : Nat) (v : SV) : N (α := UK) fun _ K => put g d v fun us ks => K (us, ks) := N_bif _ (N_leaf _) N_none
theorem N_putR (g : Nat → Option SV) (d s : Nat) (v u : SV) (ks : List Tag) : N (α := UK) fun _ K => putR g d s v u ks fun us ks => K (us, ks) := N_bif _ (N_leaf _) N_none
theorem N_lookV (d : Nat) (t : Tag) (v : SV) : N (α := UK) fun _ K => lookV d t v fun us => K (us, []) := by
  rcases v with ⟨T, x⟩
  cases T <;> first | exact N_leaf _ | exact N_bif _ (N_leaf _) N_none | exact N_none
theorem N_binK (d : Nat) (o : BinOp) (a b : SV) : N (α := UK) fun _ K => binK d o a b fun us => K (us, []) := by
  rcases a with ⟨A, x⟩
  rcases b with ⟨B, y⟩
  cases A <;> first | exact N_none | skip
  · cases B <;> first | exact N_none | skip
    cases o <;> first | exact N_geK _ (N_leaf _) | exact N_bif _ (N_leaf _) N_none | exact N_bif _ (N_nzK _ (N_leaf _)) N_none | exact N_bif _ N_none N_none
  · cases B <;> first | exact N_none | skip
    cases o <;> first | exact N_none | exact N_leaf _ | exact N_leK _ _ (N_leaf _)
theorem N_ptrK {α : Type} (g : Nat → Option SV) (v : Option SV) {F : Nat → Tag → Nat → Nat → Nat → Tag → Int → SV → Ty → (R : Type) → (α → Option R) → Option R} (h : ∀ s q off str n p i r C, N (F s q off str n p i r C)) :
    N fun R K => ptrK g v fun s q off str n p i r C => F s q off str n p i r C R K := by
  unfold ptrK
  rcases v with _ | ⟨T, x⟩
  · exact N_none
  cases T <;> first | exact N_none | skip
  rename_i t off str n p
  rcases t with _ | ⟨s, q⟩
  · exact N_none
  dsimp only
  cases g s with
  | none => exact N_none
  | some r =>
    refine N_bif _ N_none ?_
    cases tyAt r.T (q ++ [0]) with
    | none => exact N_none
    | some C =>
      dsimp only
      cases offAt C p with
      | none => exact N_none
      | some o =>
        obtain ⟨o, s', n'⟩ := o
        exact N_bif _ (h _ _ _ _ _ _ _ _ _) N_none
theorem N_buildK {g : Nat → Option SV} : ∀ (ps : List (Nat × Opd × Bool)) (v : SV) (l : List Nat), N (α := SV × List Nat) fun _ K => buildK g v ps l fun v l => K (v, l)
  | [], _, _ => N_leaf _
  | (n, o, tk) :: r, v, l => by
    simp only [buildK]
    cases opv g o with
    | none => exact N_none
    | some u =>
      have h1 : ∀ l, N (α := SV × List Nat) fun _ K => (match setF v.T v.x n u with
          | some w => buildK g w r l fun v l => K (v, l)
          | none => none) := fun l => by
        cases setF v.T v.x n u with
        | none => exact N_none
        | some w => exact N_buildK r w l
      cases tk with
      | true =>
        cases o with
        | c _ => exact N_none
        | t s =>
          dsimp only [cond_true]
          cases u.T.closed && u.T.solid && !l.contains s with
          | false => exact N_none
          | true => exact h1 _
      | false =>
        dsimp only [cond_false]
        cases u.T.pure with
        | false => exact N_none
        | true => exact h1 _
theorem N_capsK {g : Nat → Option SV} : ∀ (ps : List (Opd × Bool)) (l : List Nat), N (α := SV × List Nat) fun _ K => capsK g ps l fun v l => K (v, l)
  | [], _ => N_leaf _
  | (o, tk) :: r, l => by
    simp only [capsK]
    cases opv g o with
    | none => exact N_none
    | some u =>
      have h1 : ∀ l, N (α := SV × List Nat) fun _ K => capsK g r l fun c l => K (⟨.pair u.T c.T, (u.x, c.x)⟩, l) := fun l => N_comp (N_capsK r l) fun p => N_leaf ((⟨.pair u.T p.1.T, (u.x, p.1.x)⟩ : SV), p.2)
      have h2 : ∀ l, N (α := SV × List Nat) fun _ K => capsK g r l fun c l => K (⟨.pair u.T.fz c.T, (u.T.fzx u.x, c.x)⟩, l) := fun l => N_comp (N_capsK r l) fun p => N_leaf ((⟨.pair u.T.fz p.1.T, (u.T.fzx u.x, p.1.x)⟩ : SV), p.2)
      cases tk with
      | true =>
        cases o with
        | c _ => exact N_none
        | t s =>
          dsimp only [cond_true]
          cases u.T.fzOk && u.T.closed && !l.contains s with
          | false => exact N_none
          | true => exact h2 _
      | false =>
        dsimp only [cond_false]
        cases u.T.pure with
        | false => exact N_none
        | true => exact h1 _
theorem N_lendK {g : Nat → Option SV} (T : Ty) (s : Nat) : N fun R K => lendK (R := R) g T s K := by
  unfold lendK
  have key : ∀ v, N fun R (K : T.den → Option R) => ptrK g v fun _ q off _ _ p _ r C => bif hasIdx p || !Nat.beq off 0 then none else getK r.T r.x ((q ++ [0]) ++ p) 0 fun v => bif Nat.beq v.T.size C.size then (match coeV ⟨.box v.T, v.x⟩ T with
      | some x => K x
      | none => none) else none := fun v => N_ptrK g v fun _ q off _ _ p _ r C => by
    cases hasIdx p || !Nat.beq off 0 with
    | true => exact N_none
    | false =>
      dsimp only [cond_false]
      refine N_comp (N_getK _ _ _ _) fun v => ?_
      cases Nat.beq v.T.size C.size with
      | false => exact N_none
      | true =>
        dsimp only [cond_true]
        cases coeV ⟨.box v.T, v.x⟩ T with
        | none => exact N_none
        | some x => exact N_leaf x
  rcases gp g s with _ | ⟨A, x⟩
  · exact key none
  cases A with
  | nil k =>
    rcases k with _ | _ | k
    · exact key _
    · show N fun R (K : T.den → Option R) => (match coeV ⟨.nil 1, x⟩ T with
        | some x => K x
        | none => none)
      cases coeV ⟨.nil 1, x⟩ T with
      | none => exact N_none
      | some x => exact N_leaf x
    · exact key _
  | _ => exact key _
theorem N_argsK {g : Nat → Option SV} : ∀ (ps : List (Ty × Bool)) (as : List Arg), N fun R K => argsK (R := R) g ps as K
  | [], [] => N_leaf _
  | [], _ :: _ => N_none
  | (_, false) :: _, [] => N_none
  | (_, true) :: _, [] => N_none
  | (T, true) :: ps, .l s :: as => by
    have := N_comp (N_lendK (g := g) T s) fun x => N_comp (N_argsK (g := g) ps as) fun y => N_leaf (α := (chain ((T, true) :: ps)).den) (x, y)
    exact this
  | (T, true) :: ps, .m s :: as => by
    simp only [argsK]
    cases argV g T (.m s) with
    | none => exact N_none
    | some x => exact N_comp (N_argsK ps as) fun y => N_leaf (α := (chain ((T, true) :: ps)).den) (x, y)
  | (T, true) :: ps, .v s :: as => N_none
  | (T, true) :: ps, .k s :: as => N_none
  | (T, false) :: ps, .v o :: as => by
    simp only [argsK]
    cases argV g T (.v o) with
    | none => exact N_none
    | some x => exact N_comp (N_argsK ps as) fun y => N_leaf (α := (chain ((T, false) :: ps)).den) (x, y)
  | (T, false) :: ps, .k s :: as => by
    simp only [argsK]
    cases argV g T (.k s) with
    | none => exact N_none
    | some x => exact N_comp (N_argsK ps as) fun y => N_leaf (α := (chain ((T, false) :: ps)).den) (x, y)
  | (T, false) :: ps, .r s :: as => by
    simp only [argsK]
    cases argV g T (.r s) with
    | none => exact N_none
    | some x => exact N_comp (N_argsK ps as) fun y => N_leaf (α := (chain ((T, false) :: ps)).den) (x, y)
  | (T, true) :: ps, .r s :: as => N_none
  | (T, false) :: ps, .l s :: as => N_none
  | (T, false) :: ps, .m s :: as => N_none
end Go.Proofs.Bw
namespace Go.Proofs.Bw
open Go

theorem N_backK {g : Nat → Option SV} : ∀ (ps : List (Ty × Bool)) (as : List Arg) (r : Ty) (x : (rtOf ps r).den) (us : St) (ks : List Tag), N (α := r.den × St × List Tag) fun R K => backK (R := R) g ps as r x us ks fun x us ks => K (x, us, ks)
  | [], [], _, x, us, ks => N_leaf (x, us, ks)
  | [], _ :: _, _, _, _, _ => N_none
  | (_, false) :: _, [], _, _, _, _ => N_none
  | (_, true) :: _, [], _, _, _, _ => N_none
  | (T, true) :: ps, .l s :: as, r, x, us, ks => by
    simp only [backK]
    rcases gp g s with _ | ⟨A, y⟩
    · exact N_none
    cases A <;> first | exact N_none | skip
    · rename_i t off str n p
      rcases t with _ | ⟨k, q⟩
      · exact N_none
      dsimp only
      cases ovr g us k with
      | none => exact N_none
      | some v =>
        cases T <;> first | exact N_none | skip
        · rename_i e
          exact N_comp (N_setK v.T v.x ((q ++ [0]) ++ p) 0 ⟨e, x.1⟩) fun w => N_backK ps as r x.2 ((k, some w) :: us) ((k :: q ++ [0]) :: ks)
        · rename_i e
          exact N_bind (β := e.den) x.1 fun y => N_comp (N_setK v.T v.x ((q ++ [0]) ++ p) 0 ⟨e, y⟩) fun w => N_backK ps as r x.2 ((k, some w) :: us) ((k :: q ++ [0]) :: ks)
    · rename_i k
      rcases k with _ | _ | k
      · exact N_none
      · exact N_backK ps as r x.2 us ks
      · exact N_none
  | (T, true) :: ps, .m s :: as, r, x, us, ks => N_backK ps as r x.2 ((s, some ⟨T, x.1⟩) :: us) ([s] :: ks)
  | (T, true) :: ps, .v s :: as, _, _, _, _ => N_none
  | (T, true) :: ps, .k s :: as, _, _, _, _ => N_none
  | (T, false) :: ps, .v o :: as, r, x, us, ks => N_backK ps as r x us ks
  | (T, false) :: ps, .r o :: as, r, x, us, ks => N_backK ps as r x us ks
  | (T, true) :: ps, .r s :: as, _, _, _, _ => N_none
  | (T, false) :: ps, .k s :: as, r, x, us, ks => N_backK ps as r x ((s, none) :: us) ([s] :: ks)
  | (T, false) :: ps, .l s :: as, _, _, _, _ => N_none
  | (T, false) :: ps, .m s :: as, _, _, _, _ => N_none

theorem N_callEv (g : Nat → Option SV) (d : Option Nat) (sp : FSpec) (as : List Arg) : N (α := UK) fun _ K => callEv g d sp as fun us ks => K (us, ks) := by
  simp only [callEv]
  refine N_bif _ (N_comp (N_argsK sp.ps as) fun x => N_bind _ fun y => N_comp (N_backK (g := g) sp.ps as sp.r y [] []) (G := fun p R (K : UK → Option R) => match d with
      | some d => bif fresh g d && sp.r.closed && !((p.2.1.map (·.1)).contains d) && !headIn (lentTags g as) d then K ((d, some ⟨sp.r, p.1⟩) :: p.2.1, p.2.2) else none
      | none => K (p.2.1, p.2.2)) fun p => ?_) N_none
  cases d with
  | none => exact N_leaf (p.2.1, p.2.2)
  | some d => exact N_bif _ (N_leaf (((d, some ⟨sp.r, p.1⟩) :: p.2.1, p.2.2) : UK)) N_none
theorem N_evOp (g : Nat → Option SV) (o : XOp) : N (α := UK) fun R K => evOp g (fun us ks => K (us, ks)) o := by
  cases o with
  | mv d a =>
    simp only [evOp]
    cases opv g a with
    | none => exact N_none
    | some v => exact N_bif _ (N_put g d v) N_none
  | take d s =>
    simp only [evOp]
    cases g s with
    | none => exact N_none
    | some v => exact N_bif _ (N_leaf ([(d, some v), (s, takeV d v)], [[s]])) N_none
  | bor d s =>
    simp only [evOp]
    rcases g s with _ | ⟨T, x⟩
    · exact N_none
    cases T <;> first | exact N_bif _ (N_lookV d _ _) N_none | skip
    rename_i e
    exact N_optM (β := e.den) x (N_put g d _) fun y => N_putR g d s _ _ _
  | als d s =>
    simp only [evOp]
    rcases g s with _ | ⟨T, x⟩
    · exact N_none
    cases T <;> first | exact N_none | exact N_put g d _
  | ldA d a sz =>
    simp only [evOp]
    refine N_ptrK (α := UK) g _ fun s q _ _ _ p _ r _ => ?_
    refine N_bif _ N_none (N_comp (N_getK _ _ _ _) fun v => ?_)
    obtain ⟨T, x⟩ := v
    cases T <;> first | exact N_none | exact N_put g d _
  | frz d s =>
    simp only [evOp]
    rcases g s with _ | ⟨T, x⟩
    · exact N_none
    cases T <;> first | exact N_none | skip
    rename_i z e
    exact N_bif _ (N_leaf (([(d, some ⟨.slB z false e, x⟩), (s, some ⟨.slB z false e, x⟩)], [[s]]) : UK)) N_none
  | idxE d a i es =>
    simp only [evOp]
    rcases gpo g a with _ | ⟨T, x⟩
    · exact N_none
    rcases opI g i with _ | ⟨_, i⟩
    · cases T <;> exact N_none
    cases T <;> first | exact N_none | exact N_bif _ (N_inK' _ _ (N_put g d _)) N_none
  | ldE d a sz ag =>
    simp only [evOp]
    rcases g a with _ | ⟨T, x⟩
    · exact N_none
    cases T <;> first | exact N_none | skip
    rename_i t e off p
    rcases t with _ | ⟨k, q⟩
    · exact N_none
    dsimp only
    cases g k with
    | none => exact N_none
    | some r =>
      rcases offAt e p with _ | ⟨o, _, _⟩
      · exact N_none
      refine N_bif _ N_none (N_comp (N_getK _ _ _ _) fun v => ?_)
      obtain ⟨T, y⟩ := v
      cases T <;> first | exact N_none | skip
      exact N_dite fun h => N_idxK _ _ fun y => N_comp (N_getK _ _ _ _) fun u => N_bif _ (N_put g d _) N_none
  | stE a b sz =>
    simp only [evOp]
    rcases opv g b with _ | w
    · exact N_none
    rcases g a with _ | ⟨T, x⟩
    · exact N_none
    cases T <;> first | exact N_none | skip
    rename_i t e off p
    rcases t with _ | ⟨k, q⟩
    · exact N_none
    dsimp only
    cases g k with
    | none => exact N_none
    | some r =>
      rcases offAt e p with _ | ⟨o, _, _⟩
      · exact N_none
      refine N_bif _ N_none (N_comp (N_getK _ _ _ _) fun v => ?_)
      obtain ⟨T, y⟩ := v
      cases T <;> first | exact N_none | skip
      rename_i z e'
      exact N_dite fun h => N_idxK _ _ fun y => N_comp (N_setK _ _ _ _ _) fun u => N_dite fun h' => N_comp (N_setK _ _ _ _ _) fun v => N_leaf (([(k, some v)], [k :: q]) : UK)
  | bin d o a b =>
    simp only [evOp]
    cases opv g a with
    | none => exact N_none
    | some v =>
      cases opv g b with
      | none => exact N_none
      | some w => exact N_bif _ (N_binK d o v w) N_none
  | eqs d neg a b T =>
    simp only [evOp]
    cases opv g a with
    | none => exact N_none
    | some v =>
      cases opv g b with
      | none => exact N_none
      | some w => exact N_dite fun h => N_dite fun k => N_bif _ (N_put g d _) N_none
  | un d o a =>
    simp only [evOp]
    rcases opv g a with _ | ⟨T, x⟩
    · cases o <;> exact N_none
    · cases o <;> cases T <;> first | exact N_none | exact N_put g d _
  | cvt d c a =>
    simp only [evOp]
    rcases gpo g a with _ | ⟨T, x⟩
    · cases c <;> exact N_none
    · cases c with
      | b2s =>
        dsimp only
        refine N_bif _ N_none ?_
        cases elems (.int .u8) ⟨T, x⟩ with
        | none => exact N_none
        | some l => exact N_put g d _
      | int k => cases T <;> first | exact N_none | exact N_put g d _
      | s2b => cases T <;> first | exact N_none | exact N_put g d _
      | same => cases T <;> first | exact N_none | exact N_put g d _
  | len d a str =>
    simp only [evOp]
    rcases opv g a with _ | ⟨T, x⟩
    · cases str <;> exact N_none
    · cases str with
      | false =>
        cases T <;> first | exact N_none | exact N_put g d _ | skip
        rename_i k
        rcases k with _ | k <;> first | exact N_put g d _ | exact N_none
      | true => cases T <;> first | exact N_none | exact N_put g d _
  | idxA d a i es al =>
    simp only [evOp]
    rcases gpo g a with _ | ⟨T, x⟩
    · exact N_none
    rcases opI g i with _ | ⟨k, j⟩
    · cases T <;> first | exact N_none | (rename_i e; cases e <;> exact N_none)
    cases T <;> first | exact N_none | skip
    · rename_i z cl e
      exact N_bif _ (N_idxK (β := e.den) x j fun v => N_put g d _) N_none
    · rename_i z u e
      exact N_bif _ (N_idxK (β := e.den) x j fun v => N_put g d _) N_none
    · refine N_ptrK g _ fun s q off str n p i r C => ?_
      cases tyAt C p with
      | none => exact N_none
      | some A =>
        cases A <;> first | exact N_none | exact N_bif _ (N_inK' _ _ (N_put g d _)) N_none
    · rename_i e
      cases e <;> first | exact N_none | skip
      rename_i m e
      exact N_bif _ (N_idxK (β := e.den) x j fun v => N_put g d _) N_none
  | idx d a i es ag al =>
    simp only [evOp]
    rcases opv g a with _ | ⟨T, x⟩
    · exact N_none
    rcases opI g i with _ | ⟨k, j⟩
    · cases T <;> exact N_none
    cases T <;> first | exact N_none | skip
    · exact N_bif _ (N_idxK (β := Int) x j fun v => N_put g d _) N_none
    · rename_i n e
      exact N_bif _ (N_idxK (β := e.den) x j fun v => N_put g d _) N_none
  | ld d a sz ag =>
    simp only [evOp]
    have key : ∀ v, N (α := UK) fun R K => ptrK (R := R) g v fun s q _ _ _ p i r _ => bif fresh g d then getK r.T r.x ((q ++ [0]) ++ p) i fun v => bif Nat.beq v.T.size sz && bbeq v.T.agg ag then (match v with
        | ⟨.opt e, x⟩ => optM (α := e.den) x (put g d ⟨.nil 1, ()⟩ fun us ks => K (us, ks)) fun y => bif hasIdx p then none else setK r.T r.x ((q ++ [0]) ++ p) i ⟨.box e, y⟩ fun w => putR g d s ⟨.ptr (s :: (q ++ [0]) ++ p) 0 0 1 [], (0 : Int)⟩ w [] fun us ks => K (us, ks)
        | v => lookV d (s :: (q ++ [0]) ++ p) v (fun us => K (us, []))) else none else none := fun v => N_ptrK g v fun s q _ _ _ p i r _ => N_bif _ (N_comp (N_getK _ _ _ _) fun v => N_bif _ (by
          rcases v with ⟨T, x⟩
          cases T <;> first | exact N_lookV d _ _ | skip
          rename_i e
          exact N_optM (β := e.den) x (N_put g d _) fun y => N_bif _ N_none (N_comp (N_setK _ _ _ _ _) fun w => N_putR g d s _ _ _)) N_none) N_none
    rcases gp g a with _ | ⟨T, x⟩
    · exact key _
    cases T <;> first | exact key _ | exact N_bif _ (N_put g d _) N_none
  | ldT d a sz ag =>
    simp only [evOp]
    exact N_ptrK g _ fun s q _ _ _ p i r _ => N_bif _ N_none (N_comp (N_getK _ _ _ _) fun v => N_bif _ (N_comp (N_setK _ _ _ _ _) fun w => N_putR g d s _ _ _) N_none)
  | st a v sz =>
    simp only [evOp]
    cases opv g v with
    | none => exact N_none
    | some v =>
      refine N_ptrK g _ fun s q _ _ _ p i r C => N_bif _ ?_ N_none
      cases tyAt C p with
      | none => exact N_none
      | some T => exact N_comp (N_setK _ _ _ _ _) fun w => N_leaf ([(s, some w)], bif T.pure then [] else [s :: (q ++ [0]) ++ p])
  | stS a v sz =>
    simp only [evOp]
    cases opv g v with
    | none => exact N_none
    | some v =>
      refine N_ptrK g _ fun s q _ _ _ p i r C => N_bif _ ?_ N_none
      cases tyAt C p with
      | none => exact N_none
      | some T => exact N_comp (N_setK _ _ _ _ _) fun w => N_leaf ([(s, some w)], bif T.pure then [] else [s :: (q ++ [0]) ++ p])
  | stT a k sz =>
    simp only [evOp]
    cases g k with
    | none => exact N_none
    | some v => exact N_ptrK g _ fun s q _ _ _ p i r C => N_bif _ (N_comp (N_setK _ _ _ _ _) fun w => N_leaf ([(s, some w), (k, none)], [[k], s :: (q ++ [0]) ++ p])) N_none
  | alloc d z => exact N_bif _ (N_put g d _) N_none
  | boxv d a =>
    simp only [evOp]
    cases opv g a with
    | none => exact N_none
    | some v => exact N_bif _ (N_put g d _) N_none
  | boxT d s =>
    simp only [evOp]
    cases g s with
    | none => exact N_none
    | some v => exact N_bif _ (N_leaf (([(d, some ⟨.box v.T, v.x⟩), (s, none)], [[s]]) : UK)) N_none
  | crefv d a =>
    simp only [evOp]
    cases opv g a with
    | none => exact N_none
    | some v => exact N_bif _ (N_put g d _) N_none
  | fa d a n off =>
    simp only [evOp]
    have key : ∀ v, N (α := UK) fun R K => ptrK (R := R) g v fun s q po str m p i _ C => (match tyAt C p with
      | some T => (match fieldAt T n with
        | some (o, _, qq) => bif Nat.beq o off then put g d ⟨.ptr (s :: q) (po + o) str m (p ++ qq), i⟩ (fun us ks => K (us, ks)) else none
        | none => none)
      | none => none) := fun v => N_ptrK g v fun s q po str m p i _ C => by
        cases tyAt C p with
        | none => exact N_none
        | some T =>
          dsimp only
          rcases fieldAt T n with _ | ⟨o, _, qq⟩
          · exact N_none
          · exact N_bif _ (N_put g d _) N_none
    rcases gp g a with _ | ⟨T, x⟩
    · exact key _
    cases T <;> first | exact key _ | skip
    · rename_i e
      show N (α := UK) fun R K => (match fieldV e x n, fieldAt e n with
        | some v, some (o, _) => bif Nat.beq o off then put g d ⟨.cref v.T, v.x⟩ (fun us ks => K (us, ks)) else none
        | _, _ => none)
      rcases fieldV e x n with _ | v
      · exact N_none
      · rcases fieldAt e n with _ | ⟨o, _⟩
        · exact N_none
        · exact N_bif _ (N_put g d _) N_none
    · rename_i u e
      show N (α := UK) fun R K => (match fieldV e x n, fieldAt e n with
        | some v, some (o, _) => bif Nat.beq o off then put g d ⟨.vref u v.T, v.x⟩ (fun us ks => K (us, ks)) else none
        | _, _ => none)
      rcases fieldV e x n with _ | v
      · exact N_none
      · rcases fieldAt e n with _ | ⟨o, _⟩
        · exact N_none
        · exact N_bif _ (N_put g d _) N_none
    · rename_i u e o p
      show N (α := UK) fun R K => (match tyAt e p, offAt e p with
        | some T, some (o', _, _) => (match fieldAt T n with
          | some (o2, _, qq) => bif Nat.beq o2 off && Nat.beq o' o && !hasIdx p then put g d ⟨.eref u e (o + o2) (p ++ qq), x⟩ (fun us ks => K (us, ks)) else none
          | none => none)
        | _, _ => none)
      rcases tyAt e p with _ | T
      · exact N_none
      rcases offAt e p with _ | ⟨o', _, _⟩
      · exact N_none
      dsimp only
      rcases fieldAt T n with _ | ⟨o2, _, qq⟩
      · exact N_none
      · exact N_bif _ (N_put g d _) N_none
  | fld d a n off sz ag =>
    simp only [evOp]
    cases opv g a with
    | none => exact N_none
    | some v =>
      refine N_bif _ ?_ N_none
      rcases fieldV v.T v.x n with _ | u
      · exact N_none
      · rcases fieldAt v.T n with _ | ⟨o, _⟩
        · exact N_none
        · exact N_bif _ (N_put g d _) N_none
  | build d z ps =>
    simp only [evOp]
    exact N_bif _ (N_comp (N_buildK (g := g) ps z []) (G := fun p R (K : UK → Option R) => bif p.2.contains d || (p.1.T.pure && !p.2.isEmpty) then none else K ((d, some p.1) :: none2 p.2, tags1 p.2)) fun p => N_bif _ N_none (N_leaf _)) N_none
  | bsl d e ps =>
    simp only [evOp]
    cases opvs g e ps with
    | none => exact N_none
    | some l => exact N_bif _ (N_put g d _) N_none
  | slc d a lo hi mx es =>
    simp only [evOp]
    rcases gpo g a with _ | ⟨T, x⟩
    · exact N_none
    rcases optOpd g 0 lo with _ | l
    · cases T <;> exact N_none
    cases T <;> first | exact N_none | skip
    · dsimp only
      rcases optOpd g (List.length (α := Int) x : Int) hi with _ | h
      · exact N_none
      rcases mx with _ | m
      · exact N_bif _ (N_sliceK _ _ _ (N_put g d _)) N_none
      · exact N_none
    · rename_i z c e
      dsimp only
      rcases optOpd g (List.length (α := e.den) x : Int) hi with _ | h
      · exact N_none
      rcases mx with _ | m
      · exact N_bif _ (N_sliceK _ _ _ (N_put g d _)) N_none
      · dsimp only
        rcases opI g m with _ | ⟨_, m⟩
        · exact N_none
        · exact N_bif _ (N_eqK _ _ (N_sliceK _ _ _ (N_put g d _))) N_none
    · rename_i z u e
      dsimp only
      rcases optOpd g (List.length (α := e.den) x : Int) hi with _ | h
      · exact N_none
      rcases mx with _ | m
      · exact N_bif _ (N_sliceK _ _ _ (N_put g d _)) N_none
      · exact N_none
  | slcX d s hi es =>
    simp only [evOp]
    rcases g s with _ | ⟨T, x⟩
    · exact N_none
    rcases opI g hi with _ | ⟨_, h⟩
    · cases T <;> exact N_none
    cases T <;> first | exact N_none | skip
    rename_i z e
    exact N_bif _ (N_sliceK _ _ _ (N_leaf (([(d, some ⟨.slX (zipNm z) e, List.take (α := e.den) h.toNat x⟩), (s, none)], [[s]]) : UK))) N_none
  | app d s b eb es =>
    simp only [evOp]
    rcases g s with _ | ⟨T, x⟩
    · exact N_none
    rcases gpo g b with _ | v
    · cases T <;> exact N_none
    cases T <;> first | exact N_none | skip
    rename_i z e
    refine N_bif _ ?_ N_none
    cases elems e v with
    | none => exact N_none
    | some y => exact N_appK _ _ _ (N_leaf (([(d, some ⟨.slX z e, List.append (α := e.den) x y⟩), (s, none)], [[s]]) : UK))
  | appC d a b eb es =>
    simp only [evOp]
    rcases gpo g a with _ | ⟨T, x⟩
    · exact N_none
    cases T <;> first | exact N_none | skip
    rename_i z c e
    cases c
    · exact N_none
    rcases gpo g b with _ | v
    · exact N_none
    refine N_bif _ ?_ N_none
    cases elems e v with
    | none => exact N_none
    | some y => exact N_bif _ N_none (N_appK _ _ _ (N_put g d _))
  | mk d z n c eb =>
    simp only [evOp]
    rcases opI g n with _ | ⟨_, n⟩
    · exact N_none
    rcases opI g c with _ | ⟨_, c⟩
    · exact N_none
    exact N_bif _ (N_mkK _ _ _ (N_put g d _)) N_none
  | ext d a n =>
    simp only [evOp]
    rcases g a with _ | ⟨T, x⟩
    · exact N_none
    cases T <;> first | exact N_none | skip
    rename_i T
    show N (α := UK) fun R K => (match fieldV T x n with
      | some v => bif v.T.pure then put g d v (fun us ks => K (us, ks)) else bif v.T.closed then (match setF T x n ⟨.any, ()⟩ with
          | some w => putR g d a v ⟨.tup w.T, w.x⟩ [a :: 6 :: List.replicate n 2 ++ [1]] (fun us ks => K (us, ks))
          | none => none) else none
      | none => none)
    cases fieldV T x n with
    | none => exact N_none
    | some v =>
      refine N_bif _ (N_put g d v) (N_bif _ ?_ N_none)
      cases setF T x n ⟨.any, ()⟩ with
      | none => exact N_none
      | some w => exact N_putR g d a v _ _
  | pick d c a b =>
    simp only [evOp]
    rcases opv g c with _ | ⟨C, c⟩
    · exact N_none
    cases C <;> first | exact N_none | skip
    rcases opv g a with _ | ⟨A, a⟩
    · exact N_none
    cases A <;> first | exact N_none | skip
    rcases opv g b with _ | ⟨B, b⟩
    · exact N_none
    cases B <;> first | exact N_none | exact N_put g d _
  | pickG d c a b l =>
    simp only [evOp]
    rcases opv g c with _ | ⟨C, c⟩
    · exact N_none
    cases C <;> first | exact N_none | skip
    exact N_bif _ (N_optM _ N_none fun v => N_leaf ((d, some ⟨.bool, v⟩) :: none2 l, tags1 l)) N_none
  | nilchk d o =>
    simp only [evOp]
    rcases gpo g o with _ | ⟨C, c⟩
    · exact N_none
    cases C <;> first | exact N_none | exact N_put g d _ | exact N_bif _ (N_put g d _) N_none | exact N_optM _ N_none fun y => N_put g d _
  | eqnil d o neg sl =>
    simp only [evOp]
    rcases gpo g o with _ | ⟨C, c⟩
    · cases sl <;> exact N_none
    cases sl <;> cases C <;> first | exact N_none | exact N_put g d _ | skip
    · rename_i k; rcases k with _ | _ | k <;> first | exact N_none | exact N_put g d _
    · rename_i z _ _; cases z <;> first | exact N_none | exact N_put g d _
    · rename_i z _ _; cases z <;> first | exact N_none | exact N_put g d _
    · rename_i k; rcases k with _ | k <;> first | exact N_none | exact N_put g d _
  | call d sp as => exact N_callEv g d sp as
  | callT d sp as lt =>
    simp only [evOp]
    exact N_comp (α := UK) (β := UK) (F := fun _ K => callEv g d sp as fun us ks => K (us, ks)) (G := fun p _ (K : UK → Option _) => bif sameT g d p.1 && belowT lt p.2 then K p else none) (N_callEv g d sp as) fun p => N_bif _ (N_leaf p) N_none
  | capN d a =>
    simp only [evOp]
    rcases opv g a with _ | ⟨C, c⟩
    · exact N_none
    cases C <;> first | exact N_none | skip
    · rename_i z cl e; cases cl <;> first | exact N_none | exact N_put g d _
    · rename_i k; rcases k with _ | k <;> first | exact N_none | exact N_put g d _
  | slcN d a lo hi es =>
    simp only [evOp]
    rcases opv g a with _ | ⟨C, c⟩
    · exact N_none
    rcases optOpd g 0 lo with _ | l
    · cases C <;> first | exact N_none | skip
      rename_i k; rcases k with _ | k <;> exact N_none
    rcases optOpd g 0 hi with _ | h
    · cases C <;> first | exact N_none | skip
      rename_i k; rcases k with _ | k <;> exact N_none
    cases C <;> first | exact N_none | skip
    rename_i k; rcases k with _ | k <;> first | exact N_none | exact N_sliceK _ _ _ (N_put g d _)
  | appZ d a n z eb =>
    simp only [evOp]
    rcases opv g a with _ | ⟨C, c⟩
    · exact N_none
    rcases opI g n with _ | ⟨k, m⟩
    · cases C <;> first | exact N_none | skip
      rename_i k; rcases k with _ | k <;> exact N_none
    cases C <;> first | exact N_none | skip
    rename_i k; rcases k with _ | k <;> first | exact N_none | exact N_bif _ (N_geK _ (N_appK _ _ _ (N_put g d _))) N_none
  | slcT d s lo es =>
    simp only [evOp]
    rcases g s with _ | ⟨C, c⟩
    · exact N_none
    rcases opI g lo with _ | ⟨k, m⟩
    · cases C <;> exact N_none
    cases C <;> first | exact N_none | exact N_bif _ (N_sliceK _ _ _ (N_put g d _)) N_none
  | clr s z eb =>
    simp only [evOp]
    split
    · split
      · split
        · split
          · exact N_eqK _ _ (N_bif _ N_none (N_leaf _))
          · exact N_none
        · exact N_none
      · exact N_none
    · exact N_none
  | mkmap d k v => exact N_bif _ (N_put g d _) N_none
  | alsM d s =>
    simp only [evOp]
    rcases g s with _ | ⟨C, c⟩
    · exact N_none
    cases C <;> first | exact N_none | exact N_put g d _
  | mset a b c k' v' =>
    simp only [evOp, mrefK]
    split
    · split
      · refine N_bif _ N_none ?_
        split
        · split
          · split
            · exact N_leaf _
            · exact N_none
          · exact N_none
        · exact N_none
      · exact N_none
    · exact N_none
  | mget d a b k' z =>
    simp only [evOp, mrefK]
    split
    · split
      · refine N_bif _ N_none ?_
        split
        · split
          · split
            · exact N_optM _ (N_put g d _) fun u => N_put g d _
            · exact N_none
          · exact N_none
        · exact N_none
      · exact N_none
    · exact N_none
  | mkfp d f s =>
    simp only [evOp]
    rcases gp g s with _ | ⟨C, c⟩
    · exact N_none
    cases C <;> first | exact N_none | exact N_bif _ (N_put g d _) N_none
  | callF d sp s N as =>
    simp only [evOp]
    rcases g s with _ | ⟨C, c⟩
    · exact N_none
    cases C <;> first | exact N_none | skip
    rename_i f u
    exact N_bif _ (N_comp (α := UK) (β := UK) (F := fun _ K => callEv (withCaps g N (.pair (.ptr u 0 0 1 []) .unit) ((0 : Int), ())) d sp (as ++ [.l N]) fun us ks => K (us, ks)) (G := fun p _ (K : UK → Option _) => bif allLt N p.1 then K p else none) (N_callEv (withCaps g N (.pair (.ptr u 0 0 1 []) .unit) ((0 : Int), ())) d sp (as ++ [.l N])) fun p => N_bif _ (N_leaf p) N_none) N_none
  | callV d sp s N as =>
    simp only [evOp]
    rcases g s with _ | ⟨C, c⟩
    · exact N_none
    cases C <;> first | exact N_none | skip
    rename_i f C
    exact N_bif _ (N_comp (α := UK) (β := UK) (F := fun _ K => callEv (withCaps g N C c) d sp (as ++ capArgs N C) fun us ks => K (us, ks)) (G := fun p _ (K : UK → Option _) => bif allLt N p.1 then K p else none) (N_callEv (withCaps g N C c) d sp (as ++ capArgs N C)) fun p => N_bif _ (N_leaf p) N_none) N_none
  | shp d o u =>
    simp only [evOp]
    rcases shV g o with _ | v
    · exact N_none
    · exact N_bif _ (N_put g d _) N_none
  | mnx d mx a b =>
    simp only [evOp]
    rcases opI g a with _ | ⟨k, x⟩
    · exact N_none
    rcases opI g b with _ | ⟨j, y⟩
    · exact N_none
    exact N_bif _ (N_put g d _) N_none
  | rng d a =>
    simp only [evOp]
    rcases opv g a with _ | ⟨T, x⟩
    · exact N_none
    cases T <;> first | exact N_none | exact N_put g d _
  | nxt d s =>
    simp only [evOp]
    rcases g s with _ | ⟨T, x⟩
    · exact N_none
    cases T <;> first | exact N_none | skip
    obtain ⟨l, p⟩ := x
    exact N_bif _ (N_bif _ (N_leaf (([(d, some ⟨.tup (.pair .bool (.pair (.int .i64) (.pair (.int .i32) .unit))), (true, p, (decL l p).1, ())⟩), (s, some ⟨.siter, (l, p + (decL l p).2)⟩)], [[s]]) : UK))
      (N_leaf (([(d, some ⟨.tup (.pair .bool .unit), (false, ())⟩)], []) : UK))) N_none
  | mkfn d f cs =>
    simp only [evOp]
    exact N_bif _ (N_comp (N_capsK (g := g) cs []) (G := fun p R (K : UK → Option R) => bif p.2.contains d then none else K ((d, some ⟨.fn f p.1.T, p.1.x⟩) :: fzS g p.2, tags1 p.2)) fun p => N_bif _ N_none (N_leaf _)) N_none
  | coeS s T =>
    simp only [evOp]
    cases g s with
    | none => exact N_none
    | some v =>
      refine N_bif _ ?_ N_none
      cases coeV v T with
      | none => exact N_none
      | some x => exact N_leaf (([(s, some ⟨T, x⟩)], []) : UK)
theorem evOp_nat {R : Type} (g : Nat → Option SV) (o : XOp) (K : St → List Tag → Option R) : evOp g K o = (evOp g (fun us ks => some (us, ks)) o).bind fun p => K p.1 p.2 :=
  N_evOp g o R fun p => K p.1 p.2
end Go.Proofs.Bw
namespace Go.Proofs.Bw
open Go

theorem memN_iff {l : List Nat} {s : Nat} : memN l s = true ↔ s ∈ l := by
  induction l with
  | nil => simp [memN]
  | cons k r ih =>
    simp only [memN, Bool.or_eq_true, List.mem_cons, ih, beq_iff]
    exact ⟨fun h => h.imp Eq.symm id, fun h => h.imp Eq.symm id⟩
theorem get_keepL {l : List Nat} {st : St} {s : Nat} : ∀ {r : List Nat}, St.get (keepL l st r) s = if memN r s then (match st.get s with
    | some v => bif okV l v then some v else none
    | none => none) else none
  | [] => rfl
  | k :: r => by
    simp only [keepL]
    rw [get_cons]
    by_cases e : k = s
    · subst e; simp [memN]; rfl
    · rw [if_neg e, get_keepL (r := r)]
      have : Nat.beq k s = false := nat_beq_false e
      simp [memN, this]
theorem get_keepSt {l : List Nat} {st : St} {s : Nat} : St.get (keepSt st l) s = if memN l s then (match st.get s with
    | some v => bif okV l v then some v else none
    | none => none) else none := get_keepL
theorem keepSt_some {l : List Nat} {st : St} {s : Nat} {v : SV} (h : St.get (keepSt st l) s = some v) : s ∈ l ∧ st.get s = some v ∧ okV l v = true := by
  rw [get_keepSt] at h
  split at h
  · rename_i hm
    split at h
    · rename_i u hu
      cases ho : okV l u with
      | true => rw [ho] at h; simp at h; subst h; exact ⟨memN_iff.1 hm, hu, ho⟩
      | false => rw [ho] at h; simp at h
    · cases h
  · cases h
theorem okV_closed {l : List Nat} {v : SV} (h : v.T.closed = true) : okV l v = true := by unfold okV; rw [closed_looks h]
theorem keepSt_of {l : List Nat} {st : St} {s : Nat} {v : SV} (hm : s ∈ l) (h : st.get s = some v) (ho : okV l v = true) : St.get (keepSt st l) s = some v := by
  rw [get_keepSt, if_pos (memN_iff.2 hm), h]; simp [ho]

/-- the blocks of some slots -/
def hpart (A : Nat → Bool) (h : Hp) : Hp := fun b => match h b with
  | some blk => (match blk.tag with
    | k :: _ => bif A k then some blk else none
    | [] => none)
  | none => none
theorem hpart_some {A : Nat → Bool} {h : Hp} {b : Nat} {blk : Blk} (hb : hpart A h b = some blk) : h b = some blk ∧ ∃ k q, blk.tag = k :: q ∧ A k = true := by
  unfold hpart at hb
  split at hb
  · rename_i x hx
    split at hb
    · rename_i k q ht
      cases ha : A k with
      | true => rw [ha] at hb; simp at hb; subst hb; exact ⟨hx, k, q, ht, ha⟩
      | false => rw [ha] at hb; simp at hb
    · cases hb
  · cases hb
theorem hpart_of {A : Nat → Bool} {h : Hp} {b : Nat} {blk : Blk} {k : Nat} {q : Tag} (hb : h b = some blk) (ht : blk.tag = k :: q) (ha : A k = true) : hpart A h b = some blk := by
  unfold hpart; rw [hb]; simp only [ht, ha, cond_true]
theorem hpart_none {A : Nat → Bool} {h : Hp} {b : Nat} (hb : h b = none) : hpart A h b = none := by unfold hpart; rw [hb]

theorem SRel.sub {σ : Sg} {h : Hp} {st st2 : St} {tm : Array Value} {w : World} (S : SRel σ h st tm w) (h1 : ∀ s v, st2.get s = some v → st.get s = some v)
    (h2 : ∀ s v k q, st2.get s = some v → v.T.looks = some (k :: q) → ∃ u, st2.get k = some u) : SRel σ (hpart (fun k => (st2.get k).isSome) h) st2 tm w := by
  have own2 : ∀ k u, st2.get k = some u → Owns st k → Owns st2 k := by
    rintro k u hu ⟨v, e1, e2, e3⟩
    rw [h1 k u hu] at e1
    injection e1 with e1
    subst e1
    exact ⟨_, hu, e2, e3⟩
  refine ⟨S.inv.sub fun b x hb => (hpart_some hb).1, fun s v hs => ?_, fun s v hs => S.typ s v (h1 s v hs), fun s v u hs hu => ?_, fun b blk hb => ?_⟩
  · obtain ⟨e1, e2⟩ := S.vals s v (h1 s v hs)
    refine ⟨e1, VRel.top σ.le_refl (S.typ s v (h1 s v hs)) (fun _ b blk r hb ht => ?_) (fun u hu => ?_) e2⟩
    · rw [hpart_of hb ht (by rw [hs]; rfl), ← ht]; cases blk <;> rfl
    · obtain ⟨k, r, rfl, _⟩ := S.look s v u (h1 s v hs) hu
      obtain ⟨y, hy⟩ := h2 s v k r hs hu
      exact ⟨fun b cs hb => ⟨cs, hpart_of hb rfl (by rw [hy]; rfl)⟩, fun b cs hb => hpart_of hb rfl (by rw [hy]; rfl), fun b cs hb => hpart_of hb rfl (by rw [hy]; rfl), fun hn b blk hb => hn b blk (hpart_some hb).1⟩
  · obtain ⟨k, r, rfl, ho⟩ := S.look s v u (h1 s v hs) hu
    obtain ⟨y, hy⟩ := h2 s v k r hs hu
    exact ⟨k, r, rfl, own2 k y hy ho⟩
  · obtain ⟨hb, k, q, ht, ha⟩ := hpart_some hb
    obtain ⟨k', q', e, ho⟩ := S.own b blk hb
    rw [ht] at e
    injection e with e _
    obtain ⟨y, hy⟩ := Option.isSome_iff_exists.1 ha
    exact ⟨k, q, ht, own2 k y hy (by rw [e]; exact ho)⟩
theorem keepSt_root {l : List Nat} {st : St} {σ : Sg} {h : Hp} {tm : Array Value} {w : World} (S : SRel σ h st tm w) {s : Nat} {v : SV} {k : Nat} {q : Tag} (hs : St.get (keepSt st l) s = some v) (hl : v.T.looks = some (k :: q)) : ∃ u, St.get (keepSt st l) k = some u := by
  obtain ⟨h1, h2, h3⟩ := keepSt_some hs
  obtain ⟨k', r, e, u, hu1, hu2, hu3⟩ := S.look s v _ h2 hl
  injection e with e _
  subst e
  unfold okV at h3
  rw [hl] at h3
  exact ⟨u, keepSt_of (memN_iff.1 h3) hu1 (okV_closed hu3)⟩
theorem SRel.keep {σ : Sg} {h : Hp} {st : St} {tm : Array Value} {w : World} (S : SRel σ h st tm w) (l : List Nat) : SRel σ (hpart (fun k => (St.get (keepSt st l) k).isSome) h) (keepSt st l) tm w :=
  S.sub (fun _ _ hs => (keepSt_some hs).2.1) fun _ _ _ _ hs hl => keepSt_root S hs hl
theorem Ext.part {w w' : World} {σ σ' : Sg} {h h' : Hp} (E : Ext w σ h w' σ' h') (A : Nat → Bool) : Ext w σ h w' σ' (hpart A h') :=
  ⟨E.size, E.le, E.os, E.tape, E.out, fun b hb hn => ⟨(E.keep b hb hn).1, hpart_none (E.keep b hb hn).2.1, (E.keep b hb hn).2.2⟩⟩

theorem hasS_get {us : St} {k : Nat} : hasS us k = false → St.get us k = none := by
  induction us with
  | nil => intro _; rfl
  | cons x r ih =>
    intro hl
    simp only [hasS, Bool.or_eq_false_iff] at hl
    simp only [St.get, hl.1, cond_false]
    exact ih hl.2
theorem okUs_key {A W : List Nat} {us : St} (h : okUs A W us = true) {k : Nat} (hk : hasS us k = true) : k ∈ W := by
  induction us with
  | nil => simp [hasS] at hk
  | cons x r ih =>
    obtain ⟨j, v⟩ := x
    simp only [okUs, Bool.and_eq_true] at h
    simp only [hasS, Bool.or_eq_true] at hk
    rcases hk with hk | hk
    · rw [← beq_iff.1 hk]; exact memN_iff.1 h.1.1
    · exact ih h.2 hk
theorem hk_mem {g : Nat → Option SV} {us : St} {k : Nat} (hus : hasS us k = true) (hf : fresh g k = false) : [k] ∈ hk g us := by
  induction us with
  | nil => simp [hasS] at hus
  | cons x r ih =>
    obtain ⟨j, v⟩ := x
    simp only [hasS, Bool.or_eq_true] at hus
    simp only [hk]
    rcases hus with hus | hus
    · rw [beq_iff.1 hus, hf]; simp
    · cases fresh g j <;> simp [ih hus]
theorem hk_sub {g : Nat → Option SV} {us : St} {t : Tag} (h : t ∈ hk g us) : ∃ k, t = [k] ∧ hasS us k = true := by
  induction us with
  | nil => simp [hk] at h
  | cons x r ih =>
    obtain ⟨j, v⟩ := x
    simp only [hk] at h
    cases hf : fresh g j with
    | true =>
      rw [hf] at h
      obtain ⟨k, e, hk⟩ := ih h
      exact ⟨k, e, by simp [hasS, hk]⟩
    | false =>
      rw [hf] at h
      simp only [cond_false, List.mem_cons] at h
      rcases h with h | h
      · exact ⟨j, h, by simp [hasS]⟩
      · obtain ⟨k, e, hk⟩ := ih h
        exact ⟨k, e, by simp [hasS, hk]⟩

/-- what is not below a tag that died stays, and its root owns it as ever -/
def Stay (h h' : Hp) (st us : St) (ks : List Tag) : Prop := ∀ k r, hasS us k = true → Owns st k → isPreAny ks (k :: r) = false → Stays h h' (k :: r) ∧ Owns (st.upd us ks) k
/-- what is done on a part is done on the whole -/
theorem SStep.frame2 {σ σ' : Sg} {h h2 : Hp} {st us : St} {ks : List Tag} {tm tm' : Array Value} {w w' : World} {A W : List Nat} (S : SRel σ h st tm w) (hWA : ∀ k ∈ W, k ∈ A)
    (hus : okUs A W us = true) (E : Ext w σ (hpart (fun k => (St.get (keepSt st A) k).isSome) h) w' σ' h2)
    (T : SStep (hpart (fun k => (St.get (keepSt st A) k).isSome) h) (keepSt st A) tm us ks σ' h2 tm' w') {ks2 : List Tag}
    (Y : ks2 = ks ++ hk (St.get (keepSt st A)) us ∨ (ks2 = ks ∧ Stay (hpart (fun k => (St.get (keepSt st A) k).isSome) h) h2 (keepSt st A) us ks)) :
    ∃ h', Ext w σ h w' σ' h' ∧ SStep h st tm us ks2 σ' h' tm' w' := by
  generalize hh1 : hpart (fun k => (St.get (keepSt st A) k).isSome) h = h1 at E T Y
  have hsub : ∀ b x, h1 b = some x → h b = some x := fun b x hb => by rw [← hh1] at hb; exact (hpart_some hb).1
  have hin : ∀ b x k q, h b = some x → x.tag = k :: q → k ∈ A → h1 b = some x := by
    intro b x k q hb ht hk
    obtain ⟨k', q', e, u, hu1, _, hu3⟩ := S.own b x hb
    rw [ht] at e
    injection e with e _
    subst e
    rw [← hh1]
    exact hpart_of hb ht (by rw [keepSt_of hk hu1 (okV_closed hu3)]; rfl)
  have hkey : ∀ k, hasS us k = true → k ∈ A := fun k hk => hWA k (okUs_key hus hk)
  have hdom : ∀ k v, St.get ((keepSt st A).upd us ks) k = some v → k ∈ A := by
    intro k v hg
    rw [get_upd] at hg
    split at hg
    · rename_i hk; exact hkey k hk
    · split at hg
      · rename_i u hu; exact (keepSt_some hu).1
      · cases hg
  let h' : Hp := fun b => match h2 b with
    | some x => some x
    | none => (match h1 b with
      | some _ => none
      | none => h b)
  have e2 : ∀ b x, h2 b = some x → h' b = some x := fun b x hb => by show (match h2 b with | some x => some x | none => _) = _; rw [hb]
  have hrest : ∀ b x, h b = some x → h1 b = none → w'.heap[b]? = w.heap[b]? ∧ h2 b = none ∧ (∀ j, σ' b j = σ b j) ∧ h' b = some x := by
    intro b x hb h1b
    obtain ⟨k1, k2, k3⟩ := E.keep b (S.inv.lt hb) h1b
    refine ⟨k1, k2, k3, ?_⟩
    show (match h2 b with | some x => some x | none => (match h1 b with | some _ => none | none => h b)) = _
    rw [k2, h1b]; exact hb
  have hcase : ∀ b x, h' b = some x → h2 b = some x ∨ (h b = some x ∧ h1 b = none) := by
    intro b x hb
    change (match h2 b with | some x => some x | none => (match h1 b with | some _ => none | none => h b)) = some x at hb
    split at hb
    · rename_i y hy; injection hb with hb; subst hb; exact .inl hy
    · split at hb
      · cases hb
      · rename_i hn; exact .inr ⟨hb, hn⟩
  have hdis : ∀ b x k q, h b = some x → h1 b = none → x.tag = k :: q → k ∉ A := by
    intro b x k q hb hn ht hk
    rw [hin b x k q hb ht hk] at hn
    cases hn
  have hown : ∀ k, Owns ((keepSt st A).upd us ks) k → Owns (st.upd us ks2) k := by
    rintro k ⟨v, e1, e2, e3⟩
    refine ⟨v, ?_, e2, e3⟩
    rw [get_upd] at e1 ⊢
    split at e1
    · rename_i hk; rw [if_pos hk]; exact e1
    · rename_i hk
      rw [if_neg hk]
      split at e1
      · rename_i u hu
        split at e1
        · cases e1
        · injection e1 with e1
          subst e1
          rw [(keepSt_some hu).2.1]
          have : deadV ks2 u = false := by unfold deadV; rw [closed_looks e3]
          simp [this]
      · cases e1
  refine ⟨h', ⟨E.size, E.le, E.os, E.tape, E.out, fun b hb hn => ?_⟩, SRel.upd S us _ E.le ?_ ?_ ?_ ?_ T.tms ?_⟩
  · have h1b : h1 b = none := by
      cases hx : h1 b with
      | none => rfl
      | some x => rw [hsub b x hx] at hn; cases hn
    obtain ⟨k1, k2, k3⟩ := E.keep b hb h1b
    refine ⟨k1, ?_, k3⟩
    show (match h2 b with | some x => some x | none => (match h1 b with | some _ => none | none => h b)) = _
    rw [k2, h1b]; exact hn
  · refine ⟨fun b x cs hb hc => ?_, fun b es t hb => ?_, fun b x hb j => ?_, T.rel.inv.sta, fun b c x y hb hc hxy => ?_⟩
    · rcases hcase b x hb with hb | ⟨hb, hn⟩
      · exact T.rel.inv.cells b x cs hb hc
      · rw [(hrest b x hb hn).1]; exact S.inv.cells b x cs hb hc
    · rcases hcase b _ hb with hb | ⟨hb, hn⟩
      · exact T.rel.inv.maps b es t hb
      · rw [(hrest b _ hb hn).1]; exact S.inv.maps b es t hb
    · rcases hcase b x hb with hb | ⟨hb, hn⟩
      · exact T.rel.inv.own b x hb j
      · rw [(hrest b x hb hn).2.2.1]; exact S.inv.own b x hb j
    · rcases hcase b x hb with hb | ⟨hb, hn⟩ <;> rcases hcase c y hc with hc | ⟨hc, hm⟩
      · exact T.rel.inv.inj b c x y hb hc hxy
      · obtain ⟨k, q, et, v, hv, _⟩ := T.rel.own b x hb
        exact (hdis c y k q hc hm (by rw [← hxy, et]) (hdom k v hv)).elim
      · obtain ⟨k, q, et, v, hv, _⟩ := T.rel.own c y hc
        exact (hdis b x k q hb hn (by rw [hxy, et]) (hdom k v hv)).elim
      · exact S.inv.inj b c x y hb hc hxy
  · intro b x k q hb ht hk
    cases hx : h1 b with
    | none => exact (hrest b x hb hx).2.2.2
    | some y =>
      have : y = x := by have := hsub b y hx; rw [hb] at this; injection this with this; exact this.symm
      subst this
      exact e2 b y (T.keep.1 b y k q hx ht hk)
  · intro b x hb
    rcases hcase b x hb with hb | ⟨hb, hn⟩
    · obtain ⟨k, q, et, ho⟩ := T.rel.own b x hb
      exact ⟨k, q, et, fun _ => hown k ho, fun hk => hsub b x (T.keep.2 b x k q hb et hk)⟩
    · obtain ⟨k, q, et, ho⟩ := S.own b x hb
      exact ⟨k, q, et, fun hk => (hdis b x k q hb hn et (hkey k hk)).elim, fun _ => hb⟩
  · intro s v hs hv
    have hg : St.get ((keepSt st A).upd us ks) s = some v := by rw [get_upd, if_pos hs]; exact hv
    obtain ⟨k1, k2⟩ := T.rel.vals s v hg
    refine ⟨k1, VRel.top σ'.le_refl (T.rel.typ s v hg) (fun _ b blk r hb ht => ?_) (fun u hu => ?_) k2, T.rel.typ s v hg, fun u hu => ?_⟩
    · rw [e2 b blk hb, ← ht]; cases blk <;> rfl
    · obtain ⟨k, r, rfl, x, hx, _⟩ := T.rel.look s v u hg hu
      refine ⟨fun b cs hb => ⟨cs, e2 _ _ hb⟩, fun b cs hb => e2 _ _ hb, fun b cs hb => e2 _ _ hb, fun hn b blk hb ht => ?_⟩
      rcases hcase b blk hb with hb | ⟨hb, hm⟩
      · exact hn b blk hb ht
      · exact hdis b blk k r hb hm ht (hdom k x hx)
    · obtain ⟨k, r, e, ho⟩ := T.rel.look s v u hg hu
      exact ⟨k, r, e, hown k ho⟩
  · intro s v k r hs hns hl hk hdead
    obtain ⟨k', r', e, u, hu1, hu2, hu3⟩ := S.look s v _ hs hl
    injection e with e _
    subst e
    have hgk := keepSt_of (hkey k hk) hu1 (okV_closed hu3)
    rcases Y with rfl | ⟨rfl, Y⟩
    · exfalso
      have hf : fresh (St.get (keepSt st A)) k = false := by
        unfold fresh
        rw [hgk]
        simp only [hu2, closed_looks hu3]; rfl
      rw [dead_of hl (c := [k]) (List.mem_append.2 (.inr (hk_mem hk hf))) isPre_single] at hdead
      cases hdead
    · have hnd : isPreAny ks2 (k :: r) = false := by unfold deadV at hdead; rw [hl] at hdead; exact hdead
      obtain ⟨y1, y2⟩ := Y k r hk ⟨u, hgk, hu2, hu3⟩ hnd
      refine ⟨⟨fun b cs hb => ?_, fun b cs hb => ?_, fun b cs hb => ?_, fun hn b blk hb ht => ?_⟩, hown k y2⟩
      · obtain ⟨cs', hc⟩ := y1.1 b cs (hin b _ k r hb rfl (hkey k hk))
        exact ⟨cs', e2 _ _ hc⟩
      · exact e2 _ _ (y1.row b cs (hin b _ k r hb rfl (hkey k hk)))
      · exact e2 _ _ (y1.obj b cs (hin b _ k r hb rfl (hkey k hk)))
      · rcases hcase b blk hb with hb | ⟨hb, hm⟩
        · exact y1.no (fun b' blk' hb' ht' => hn b' blk' (hsub b' blk' hb') ht') b blk hb ht
        · exact hn b blk hb ht
theorem SStep.frame {σ σ' : Sg} {h h2 : Hp} {st us : St} {ks : List Tag} {tm tm' : Array Value} {w w' : World} {A W : List Nat} (S : SRel σ h st tm w) (hWA : ∀ k ∈ W, k ∈ A)
    (hus : okUs A W us = true) (E : Ext w σ (hpart (fun k => (St.get (keepSt st A) k).isSome) h) w' σ' h2)
    (T : SStep (hpart (fun k => (St.get (keepSt st A) k).isSome) h) (keepSt st A) tm us ks σ' h2 tm' w') :
    ∃ h', Ext w σ h w' σ' h' ∧ SStep h st tm us (ks ++ hk (St.get (keepSt st A)) us) σ' h' tm' w' := SStep.frame2 S hWA hus E T (.inl rfl)
end Go.Proofs.Bw
namespace Go.Proofs.Bw
open Go

structure Stp where
  op : XOp
  g : Option (Nat × Bool)      -- the guard's slot, and what it must be
  f : Option (List Nat × List Nat)
def undefV : SV := ⟨.nil 5, ()⟩
def dstX : XOp → Option Nat
  | .mv d _ | .take d _ | .bor d _ | .als d _ | .ldA d _ _ | .frz d _ | .idxE d _ _ _ | .ldE d _ _ _ | .bin d _ _ _ | .eqs d _ _ _ _ | .un d _ _ | .cvt d _ _ | .len d _ _ | .idxA d _ _ _ _ | .idx d _ _ _ _ _ | .ld d _ _ _ | .ldT d _ _ _
  | .alloc d _ | .boxv d _ | .boxT d _ | .crefv d _ | .fa d _ _ _ | .fld d _ _ _ _ _ | .build d _ _ | .bsl d _ _ | .slc d _ _ _ _ _ | .slcX d _ _ _ | .mnx d _ _ _ | .rng d _ | .nxt d _ | .app d _ _ _ _ | .appC d _ _ _ _
  | .mk d _ _ _ _ | .ext d _ _ | .pick d _ _ _ | .pickG d _ _ _ _ | .nilchk d _ | .eqnil d _ _ _ | .mkfn d _ _ | .mkfp d _ _ | .mkmap d _ _ | .capN d _ | .slcN d _ _ _ _ | .appZ d _ _ _ _ | .slcT d _ _ _ | .alsM d _ | .mget d _ _ _ _ => some d
  | .call d _ _ => d
  | .callT d _ _ _ => d
  | .callV d _ _ _ _ => d
  | .callF d _ _ _ _ => d
  | .shp d _ _ => some d
  | .st _ _ _ | .stS _ _ _ | .stT _ _ _ | .coeS _ _ | .stE _ _ _ | .mset _ _ _ _ _ | .clr _ _ _ => none

def Eqv (a b : St) : Prop := ∀ s, a.get s = b.get s
theorem Eqv.symm {a b : St} (h : Eqv a b) : Eqv b a := fun s => (h s).symm
theorem Eqv.trans {a b c : St} (h : Eqv a b) (k : Eqv b c) : Eqv a c := fun s => (h s).trans (k s)
theorem Eqv.keep {a b : St} (h : Eqv a b) (l : List Nat) : (keepSt a l).get = (keepSt b l).get := by
  funext s; rw [get_keepSt, get_keepSt, h s]
theorem Eqv.upd {a b : St} (h : Eqv a b) (us : St) (ks : List Tag) : Eqv (a.upd us ks) (b.upd us ks) := fun s => by rw [get_upd, get_upd, h s]

/-- what a step writes -/
def locRun (A W : List Nat) (g : Nat → Option SV) (o : XOp) : Option (St × List Tag) :=
  evOp g (fun us ks => bif okUs A W us && okKs W ks then some (us, ks ++ hkO o g us) else none) o
def locSkip (W : List Nat) (g : Nat → Option SV) (o : XOp) : Option (St × List Tag) :=
  match dstX o with
  | some d => bif memN W d && fresh g d then some ([(d, some undefV)], []) else none
  | none => none
def locG (gd : Option (Nat × Bool)) (A W : List Nat) (g : Nat → Option SV) (o : XOp) : Option (St × List Tag) :=
  match gd with
  | none => locRun A W g o
  | some (j, want) => match g j with
    | some ⟨.bool, c⟩ => bif bbeq c want then locRun A W g o else locSkip W g o
    | some ⟨.nil 5, _⟩ => locSkip W g o
    | _ => none
def step (s : Stp) (st : St) : Option St :=
  match s.f, s.g with
  | none, none => (evOp st.get (fun us ks => some (us, ks)) s.op).map fun p => st.upd p.1 p.2
  | none, some _ => none
  | some (A, W), gd => (locG gd A W (keepSt st A).get s.op).map fun p => st.upd p.1 p.2
def fold : List Stp → St → Option St
  | [], st => some st
  | s :: r, st => (step s st).bind (fold r)

theorem okKs_mem {W : List Nat} {ks : List Tag} (h : okKs W ks = true) : ∀ t ∈ ks, ∃ k q, t = k :: q ∧ k ∈ W := by
  induction ks with
  | nil => intro t ht; cases ht
  | cons x r ih =>
    rcases x with _ | ⟨k, q⟩
    · simp [okKs] at h
    · simp only [okKs, Bool.and_eq_true] at h
      intro t ht
      rcases List.mem_cons.1 ht with rfl | ht
      · exact ⟨k, q, rfl, memN_iff.1 h.1⟩
      · exact ih h.2 t ht
theorem okUs_val {A W : List Nat} {us : St} (h : okUs A W us = true) {k : Nat} {v : SV} (hv : St.get us k = some v) : okV A v = true := by
  induction us with
  | nil => simp [St.get] at hv
  | cons x r ih =>
    obtain ⟨j, u⟩ := x
    simp only [okUs, Bool.and_eq_true] at h
    rw [get_cons] at hv
    split at hv
    · subst hv; exact h.1.2
    · exact ih h.2 hv
/-- a step's writes lie in W; what dies has its root in W -/
structure LocOk (A W : List Nat) (us : St) (ks : List Tag) : Prop where
  us : okUs A W us = true
  ks : ∀ t ∈ ks, ∃ k q, t = k :: q ∧ k ∈ W
theorem hkO_sub {o : XOp} {g : Nat → Option SV} {us : St} {t : Tag} (h : t ∈ hkO o g us) : t ∈ hk g us := by
  unfold hkO at h
  split at h
  · cases h
  · cases h
  · exact h
theorem locRun_some {A W : List Nat} {g : Nat → Option SV} {o : XOp} {us : St} {ks : List Tag} (h : locRun A W g o = some (us, ks)) :
    ∃ ks0, evOp g (fun us ks => some (us, ks)) o = some (us, ks0) ∧ okUs A W us = true ∧ okKs W ks0 = true ∧ ks = ks0 ++ hkO o g us := by
  unfold locRun at h
  rw [evOp_nat] at h
  cases he : evOp g (fun us ks => some (us, ks)) o with
  | none => rw [he] at h; cases h
  | some p =>
    obtain ⟨us', ks'⟩ := p
    rw [he] at h
    simp only [Option.bind_some] at h
    obtain ⟨hc, h⟩ := bif_some h
    simp only [Bool.and_eq_true] at hc
    simp only [Option.some.injEq, Prod.mk.injEq] at h
    obtain ⟨rfl, rfl⟩ := h
    exact ⟨ks', rfl, hc.1, hc.2, rfl⟩
theorem locSkip_some {W : List Nat} {g : Nat → Option SV} {o : XOp} {us : St} {ks : List Tag} (h : locSkip W g o = some (us, ks)) :
    ∃ d, dstX o = some d ∧ d ∈ W ∧ fresh g d = true ∧ us = [(d, some undefV)] ∧ ks = [] := by
  unfold locSkip at h
  split at h
  · rename_i d hd
    obtain ⟨hc, h⟩ := bif_some h
    simp only [Bool.and_eq_true] at hc
    simp only [Option.some.injEq, Prod.mk.injEq] at h
    exact ⟨d, hd, memN_iff.1 hc.1, hc.2, h.1.symm, h.2.symm⟩
  · cases h
theorem locRun_ok {A W : List Nat} {g : Nat → Option SV} {o : XOp} {us : St} {ks : List Tag} (h : locRun A W g o = some (us, ks)) : LocOk A W us ks := by
  obtain ⟨ks0, _, h1, h2, rfl⟩ := locRun_some h
  refine ⟨h1, fun t ht => ?_⟩
  rcases List.mem_append.1 ht with ht | ht
  · exact okKs_mem h2 t ht
  · obtain ⟨k, rfl, hk⟩ := hk_sub (hkO_sub ht)
    exact ⟨k, [], rfl, okUs_key h1 hk⟩
theorem locSkip_ok {A W : List Nat} {g : Nat → Option SV} {o : XOp} {us : St} {ks : List Tag} (h : locSkip W g o = some (us, ks)) : LocOk A W us ks := by
  obtain ⟨d, _, h1, _, rfl, rfl⟩ := locSkip_some h
  exact ⟨by simp [okUs, memN_iff.2 h1, okV, undefV, Ty.looks], fun t ht => by cases ht⟩
theorem locG_cases {gd : Option (Nat × Bool)} {A W : List Nat} {g : Nat → Option SV} {o : XOp} {p : St × List Tag} (h : locG gd A W g o = some p) :
    (locRun A W g o = some p ∧ (gd = none ∨ ∃ j want, gd = some (j, want) ∧ g j = some ⟨.bool, want⟩)) ∨
    (locSkip W g o = some p ∧ ∃ j want, gd = some (j, want) ∧ ((∃ c : Bool, g j = some ⟨.bool, c⟩ ∧ c ≠ want) ∨ g j = some undefV)) := by
  unfold locG at h
  split at h
  · exact .inl ⟨h, .inl rfl⟩
  · rename_i j want
    split at h
    · rename_i c hc
      obtain ⟨c, rfl⟩ : ∃ b : Bool, b = c := ⟨c, rfl⟩
      cases hb : bbeq c want with
      | true =>
        rw [hb] at h
        have := bbeq_eq hb
        subst this
        exact .inl ⟨h, .inr ⟨j, c, rfl, hc⟩⟩
      | false =>
        rw [hb] at h
        exact .inr ⟨h, j, want, rfl, .inl ⟨c, hc, fun e => by subst e; cases c <;> simp [bbeq] at hb⟩⟩
    · rename_i x hx
      exact .inr ⟨h, j, want, rfl, .inr hx⟩
    · cases h
theorem locG_ok {gd : Option (Nat × Bool)} {A W : List Nat} {g : Nat → Option SV} {o : XOp} {us : St} {ks : List Tag} (h : locG gd A W g o = some (us, ks)) : LocOk A W us ks := by
  rcases locG_cases h with ⟨h, _⟩ | ⟨h, _⟩
  · exact locRun_ok h
  · exact locSkip_ok h

theorem dead_some {ks : List Tag} {v : SV} (h : deadV ks v = true) : ∃ u, v.T.looks = some u ∧ isPreAny ks u = true := by
  unfold deadV at h
  split at h
  · rename_i u hu; exact ⟨u, hu, h⟩
  · cases h
theorem isPreAny_some {ks : List Tag} {u : Tag} (h : isPreAny ks u = true) : ∃ t ∈ ks, isPre t u = true := by
  induction ks with
  | nil => simp [isPreAny] at h
  | cons k r ih =>
    simp only [isPreAny, Bool.or_eq_true] at h
    rcases h with h | h
    · exact ⟨k, by simp, h⟩
    · obtain ⟨t, h1, h2⟩ := ih h; exact ⟨t, by simp [h1], h2⟩
theorem LocOk.dead {A W : List Nat} {us : St} {ks : List Tag} (L : LocOk A W us ks) {v : SV} (h : deadV ks v = true) : ∃ k q, v.T.looks = some (k :: q) ∧ k ∈ W := by
  obtain ⟨u, hu, hp⟩ := dead_some h
  obtain ⟨t, ht, hpre⟩ := isPreAny_some hp
  obtain ⟨k, q, rfl, hk⟩ := L.ks t ht
  rcases u with _ | ⟨k', q'⟩
  · simp [isPre] at hpre
  · have := isPre_head hpre
    subst this
    exact ⟨k, q', hu, hk⟩
theorem LocOk.acc {A W B : List Nat} {us : St} {ks : List Tag} (L : LocOk A W us ks) (hd : ∀ k ∈ W, k ∉ B) (st : St) : (keepSt (st.upd us ks) B).get = (keepSt st B).get := by
  funext s
  rw [get_keepSt, get_keepSt]
  cases hm : memN B s with
  | false => rfl
  | true =>
    have hns : hasS us s = false := by
      cases hh : hasS us s with
      | false => rfl
      | true => exact (hd s (okUs_key L.us hh) (memN_iff.1 hm)).elim
    rw [get_upd, if_neg (show ¬ (hasS us s = true) by rw [hns]; simp)]
    simp only [if_true]
    cases st.get s with
    | none => rfl
    | some v =>
      cases hdead : deadV ks v with
      | false => simp [hdead]
      | true =>
        obtain ⟨k, q, hl, hk⟩ := L.dead hdead
        have : okV B v = false := by
          unfold okV
          rw [hl]
          show memN B k = false
          cases hh : memN B k with
          | false => rfl
          | true => exact (hd k hk (memN_iff.1 hh)).elim
        simp [hdead, this]
theorem LocOk.comm {A W B V : List Nat} {us vs : St} {ks ls : List Tag} (L : LocOk A W us ks) (M : LocOk B V vs ls) (hWA : ∀ k ∈ W, k ∈ A) (hVB : ∀ k ∈ V, k ∈ B) (h1 : ∀ k ∈ W, k ∉ B) (h2 : ∀ k ∈ V, k ∉ A) (st : St) :
    Eqv ((st.upd us ks).upd vs ls) ((st.upd vs ls).upd us ks) := by
  intro s
  rw [get_upd, get_upd, get_upd, get_upd]
  cases hu : hasS us s with
  | true =>
    have hns : hasS vs s = false := by
      cases hh : hasS vs s with
      | false => rfl
      | true => exact (h1 s (okUs_key L.us hu) (hVB s (okUs_key M.us hh))).elim
    rw [hns]
    simp only [Bool.false_eq_true, if_false, if_true]
    cases hx : St.get us s with
    | none => rfl
    | some v =>
      have : deadV ls v = false := by
        cases hd : deadV ls v with
        | false => rfl
        | true =>
          obtain ⟨k, q, hl, hk⟩ := M.dead hd
          have := okUs_val L.us hx
          unfold okV at this
          rw [hl] at this
          exact (h2 k hk (memN_iff.1 this)).elim
      simp [this]
  | false =>
    simp only [Bool.false_eq_true, if_false]
    cases hv : hasS vs s with
    | true =>
      simp only [if_true]
      cases hx : St.get vs s with
      | none => rfl
      | some v =>
        have : deadV ks v = false := by
          cases hd : deadV ks v with
          | false => rfl
          | true =>
            obtain ⟨k, q, hl, hk⟩ := L.dead hd
            have := okUs_val M.us hx
            unfold okV at this
            rw [hl] at this
            exact (h1 k hk (memN_iff.1 this)).elim
        simp [this]
    | false =>
      simp only [Bool.false_eq_true, if_false]
      cases st.get s with
      | none => rfl
      | some v => cases h3 : deadV ks v <;> cases h4 : deadV ls v <;> simp [h3, h4]

def disj : List Nat → List Nat → Bool
  | [], _ => true
  | k :: r, l => !memN l k && disj r l
theorem disj_spec {a b : List Nat} (h : disj a b = true) : ∀ k ∈ a, k ∉ b := by
  induction a with
  | nil => intro k hk; cases hk
  | cons x r ih =>
    simp only [disj, Bool.and_eq_true, Bool.not_eq_true'] at h
    intro k hk hb
    rcases List.mem_cons.1 hk with rfl | hk
    · rw [memN_iff.2 hb] at h; simp at h
    · exact ih h.2 k hk hb
def subN : List Nat → List Nat → Bool
  | [], _ => true
  | k :: r, l => memN l k && subN r l
theorem subN_spec {a b : List Nat} (h : subN a b = true) : ∀ k ∈ a, k ∈ b := by
  induction a with
  | nil => intro k hk; cases hk
  | cons x r ih =>
    simp only [subN, Bool.and_eq_true] at h
    intro k hk
    rcases List.mem_cons.1 hk with rfl | hk
    · exact memN_iff.1 h.1
    · exact ih h.2 k hk
/-- a step that keeps to its part -/
def Stp.tame (s : Stp) : Bool := match s.f with
  | some (A, W) => subN W A && (match s.g with
    | some (j, _) => memN A j
    | none => true)
  | none => s.g.isNone
def indepD (s t : Stp) : Bool := match s.f, t.f with
  | some (A, W), some (B, V) => disj W B && disj V A
  | _, _ => false
/-- a call that says what it writes, and a view of what stands apart -/
def indepS (s t : Stp) : Bool := match s, t with
  | ⟨.callT dd _ _ lt, none, some (A, _)⟩, ⟨.shp d _ u, none, some (B, V)⟩ => !memN A d && subN V [d] && (match dd with
    | some d' => !memN B d'
    | none => true) && !isPreAny lt u
  | _, _ => false
def indep (s t : Stp) : Bool := indepD s t || indepS s t

theorem step_eqv {s : Stp} {st st' st1 : St} (he : Eqv st st') (h : step s st = some st1) : ∃ st1', step s st' = some st1' ∧ Eqv st1 st1' := by
  obtain ⟨o, gd, f⟩ := s
  cases f with
  | none =>
    cases gd with
    | some _ => cases h
    | none =>
      simp only [step] at h ⊢
      rw [show st.get = st'.get from funext he] at h
      cases hx : evOp st'.get (fun us ks => some (us, ks)) o with
      | none => rw [hx] at h; cases h
      | some p =>
        rw [hx] at h
        injection h with h
        subst h
        exact ⟨_, rfl, he.upd _ _⟩
  | some AW =>
    obtain ⟨A, W⟩ := AW
    simp only [step] at h ⊢
    rw [he.keep A] at h
    cases hx : locG gd A W (keepSt st' A).get o with
    | none => rw [hx] at h; cases h
    | some p =>
      rw [hx] at h
      injection h with h
      subst h
      exact ⟨_, rfl, he.upd _ _⟩
theorem fold_eqv : ∀ {l : List Stp} {st st' st1 : St}, Eqv st st' → fold l st = some st1 → ∃ st1', fold l st' = some st1' ∧ Eqv st1 st1'
  | [], st, st', st1, he, h => by injection h with h; subst h; exact ⟨st', rfl, he⟩
  | s :: r, st, st', st1, he, h => by
    simp only [fold] at h ⊢
    cases hs : step s st with
    | none => rw [hs] at h; cases h
    | some st2 =>
      rw [hs] at h
      obtain ⟨st2', h1, h2⟩ := step_eqv he hs
      rw [h1]
      exact fold_eqv h2 h
theorem step_commD {s t : Stp} {st st1 st2 : St} (hi : indepD s t = true) (ts : s.tame = true) (tt : t.tame = true) (h1 : step s st = some st1) (h2 : step t st1 = some st2) :
    ∃ st1' st2', step t st = some st1' ∧ step s st1' = some st2' ∧ Eqv st2 st2' := by
  obtain ⟨o, gd, f⟩ := s
  obtain ⟨p, ge, f'⟩ := t
  unfold indepD at hi
  cases f with
  | none => simp at hi
  | some AW =>
    cases f' with
    | none => simp at hi
    | some BV =>
      obtain ⟨A, W⟩ := AW
      obtain ⟨B, V⟩ := BV
      simp only [Bool.and_eq_true] at hi
      have hWB := disj_spec hi.1
      have hVA := disj_spec hi.2
      simp only [Stp.tame, Bool.and_eq_true] at ts tt
      have hWA := subN_spec ts.1
      have hVB := subN_spec tt.1
      simp only [step] at h1 h2 ⊢
      cases hx : locG gd A W (keepSt st A).get o with
      | none => rw [hx] at h1; cases h1
      | some x =>
        obtain ⟨us, ks⟩ := x
        rw [hx] at h1
        injection h1 with h1
        subst h1
        have L := locG_ok hx
        rw [L.acc hWB] at h2
        cases hy : locG ge B V (keepSt st B).get p with
        | none => rw [hy] at h2; cases h2
        | some y =>
          obtain ⟨vs, ls⟩ := y
          rw [hy] at h2
          injection h2 with h2
          subst h2
          have M := locG_ok hy
          exact ⟨st.upd vs ls, (st.upd vs ls).upd us ks, rfl, by rw [M.acc hVA, hx]; rfl, L.comm M hWA hVB hWB hVA st⟩
/-- one state as another one, but for the data of what stands by itself -/
def ExtT (g g' : Nat → Option SV) : Prop := ∀ j v, g j = some v → ∃ v', g' j = some v' ∧ v'.T = v.T ∧ (v.T.closed = true ∨ v' = v)
theorem gp_ext {g g' : Nat → Option SV} (E : ExtT g g') {a : Nat} {u : Tag} {o st m : Nat} {p : Tag} {i : Int} (h : gp g a = some ⟨.ptr u o st m p, i⟩) : gp g' a = some ⟨.ptr u o st m p, i⟩ := by
  unfold gp at h ⊢
  cases hg : g a with
  | none => rw [hg] at h; cases h
  | some v =>
    obtain ⟨⟨T', x'⟩, h1, h2, h3⟩ := E a v hg
    obtain ⟨T, x⟩ := v
    simp only at h2
    subst h2
    rw [hg] at h
    rw [h1]
    cases T'
    case ptr =>
      have h3 := h3.resolve_left (by simp [Ty.closed])
      rw [h3]
      exact h
    all_goals first | exact h | (simp only at h; cases h)
theorem ptrK_ext {α : Type} {g g' : Nat → Option SV} (E : ExtT g g') {u : Tag} {o st m : Nat} {p : Tag} {i : Int} {F : Nat → Tag → Nat → Nat → Nat → Tag → Int → SV → Ty → Option α} {F' : Nat → Tag → Nat → Nat → Nat → Tag → Int → SV → Ty → Option α} {z : α}
    (h : ptrK g (some ⟨.ptr u o st m p, i⟩) F = some z) (hF : ∀ s q o st m p i r r' C, r'.T = r.T → F s q o st m p i r C = some z → F' s q o st m p i r' C = some z) : ptrK g' (some ⟨.ptr u o st m p, i⟩) F' = some z := by
  unfold ptrK at h ⊢
  rcases u with _ | ⟨s, q⟩
  · cases h
  · simp only at h ⊢
    cases hg : g s with
    | none => rw [hg] at h; cases h
    | some r =>
      obtain ⟨r', h1, h2, _⟩ := E s r hg
      rw [hg] at h
      rw [h1]
      simp only [h2] at h ⊢
      cases hq : hasIdx q with
      | true => rw [hq] at h; cases h
      | false =>
        rw [hq] at h
        simp only [cond_false] at h ⊢
        cases ht : tyAt r.T (q ++ [0]) with
        | none => rw [ht] at h; cases h
        | some C =>
          rw [ht] at h
          simp only at h ⊢
          cases ho : offAt C p with
          | none => rw [ho] at h; cases h
          | some x =>
            obtain ⟨a, b, c⟩ := x
            rw [ho] at h
            simp only at h ⊢
            obtain ⟨hc, h⟩ := bif_some h
            rw [hc, cond_true]
            exact hF _ _ _ _ _ _ _ _ _ _ h2 h
theorem shV_ext {g g' : Nat → Option SV} (E : ExtT g g') {o : ShOp} {v : SV} (h : shV g o = some v) : shV g' o = some v := by
  cases o with
  | bor s =>
    simp only [shV] at h ⊢
    cases hg : g s with
    | none => rw [hg] at h; cases h
    | some x =>
      obtain ⟨⟨T', x'⟩, h1, h2, h3⟩ := E s x hg
      obtain ⟨T, x⟩ := x
      simp only at h2
      subst h2
      rw [hg] at h
      rw [h1]
      cases T'
      case box e => injection h with h; subst h; rfl
      case ptr =>
        have h3 := h3.resolve_left (by simp [Ty.closed])
        rw [h3]
        exact h
      all_goals cases h
  | nc a =>
    simp only [shV] at h ⊢
    split at h
    · rename_i u o st m p i hg
      rw [gp_ext E hg]
      exact h
    · cases h
  | fa a n off =>
    simp only [shV] at h ⊢
    split at h
    · rename_i u o st m p i hg
      rw [gp_ext E hg]
      exact ptrK_ext E h fun s q o st m p i r r' C _ hh => hh
    · cases h
  | ld a sz ag =>
    simp only [shV] at h ⊢
    split at h
    · rename_i u o st m p i hg
      rw [gp_ext E hg]
      exact ptrK_ext E h fun s q o st m p i r r' C hT hh => by rw [hT]; exact hh
    · cases h
theorem callT_some {g : Nat → Option SV} {d : Option Nat} {sp : FSpec} {as : List Arg} {lt : List Tag} {us : St} {ks : List Tag} (h : evOp g (fun us ks => some (us, ks)) (.callT d sp as lt) = some (us, ks)) :
    evOp g (fun us ks => some (us, ks)) (.call d sp as) = some (us, ks) ∧ sameT g d us = true ∧ belowT lt ks = true := by
  simp only [evOp] at h ⊢
  have hn2 := N_callEv g d sp as UK (fun p => bif sameT g d p.1 && belowT lt p.2 then some p else none)
  have hn2 : (callEv g d sp as fun us ks => bif sameT g d us && belowT lt ks then some (us, ks) else none) = (callEv g d sp as fun us ks => some (us, ks)).bind fun p => bif sameT g d p.1 && belowT lt p.2 then some p else none := hn2
  rw [hn2] at h
  cases hx : callEv g d sp as (fun us ks => some (us, ks)) with
  | none => rw [hx] at h; cases h
  | some p =>
    rw [hx] at h
    simp only [Option.bind_some] at h
    obtain ⟨hc, h⟩ := bif_some h
    simp only [Option.some.injEq] at h
    subst h
    simp only [Bool.and_eq_true] at hc
    exact ⟨rfl, hc.1, hc.2⟩
theorem sameT_get {g : Nat → Option SV} {d : Option Nat} : ∀ {us : St}, sameT g d us = true → ∀ {j : Nat} {v : SV}, St.get us j = some v → d ≠ some j → ∃ u, g j = some u ∧ v.T = u.T ∧ u.T.closed = true
  | [], _, j, v, hv, _ => by simp [St.get] at hv
  | (k, w) :: r, h, j, v, hv, hd => by
    simp only [sameT] at h
    obtain ⟨h0, h⟩ := Bool.and_eq_true_iff.1 h
    have h1 := Bool.or_eq_true_iff.1 h0
    rw [get_cons] at hv
    split at hv
    · rename_i e
      subst e
      subst hv
      rcases h1 with h1 | h1
      · exfalso
        cases d with
        | none => cases h1
        | some d => exact hd (by rw [Nat.eq_of_beq_eq_true h1])
      · cases hg : g k with
        | none => rw [hg] at h1; cases h1
        | some u =>
          rw [hg] at h1
          simp only [Bool.and_eq_true] at h1
          exact ⟨u, rfl, Ty.eq_of_beq h1.1, h1.2⟩
    · exact sameT_get h hv hd
theorem belowT_mem {lt : List Tag} : ∀ {ks : List Tag}, belowT lt ks = true → ∀ t ∈ ks, isPreAny lt t = true
  | [], _, t, ht => by cases ht
  | x :: r, h, t, ht => by
    simp only [belowT, Bool.and_eq_true] at h
    rcases List.mem_cons.1 ht with rfl | ht
    · exact h.1
    · exact belowT_mem h.2 t ht
theorem isPreAny_mk {ks : List Tag} {t u : Tag} (ht : t ∈ ks) (hp : isPre t u = true) : isPreAny ks u = true := by
  induction ks with
  | nil => cases ht
  | cons x r ih =>
    simp only [isPreAny, Bool.or_eq_true]
    rcases List.mem_cons.1 ht with rfl | ht
    · exact .inl hp
    · exact .inr (ih ht)
theorem isPre_tr {a b c : Tag} (h : isPre a b = true) (k : isPre b c = true) : isPre a c = true := by
  obtain ⟨x, rfl⟩ := isPre_iff.1 h
  obtain ⟨y, rfl⟩ := isPre_iff.1 k
  exact isPre_iff.2 ⟨x ++ y, by rw [List.append_assoc]⟩
theorem step_commS {s t : Stp} {st st1 st2 : St} (hi : indepS s t = true) (ts : s.tame = true) (tt : t.tame = true) (h1 : step s st = some st1) (h2 : step t st1 = some st2) :
    ∃ st1' st2', step t st = some st1' ∧ step s st1' = some st2' ∧ Eqv st2 st2' := by
  unfold indepS at hi
  split at hi
  case h_2 => cases hi
  rename_i dd sp as lt A W d o u B V
  simp only [Bool.and_eq_true, Bool.not_eq_true'] at hi
  obtain ⟨⟨⟨hdA, hV⟩, hdd⟩, hlt⟩ := hi
  simp only [Stp.tame, Bool.and_true] at ts tt
  have hWA := subN_spec ts
  have hVd : ∀ k ∈ V, k = d := fun k hk => by have := subN_spec hV k hk; simpa using this
  have hdA' : d ∉ A := fun h => by rw [memN_iff.2 h] at hdA; cases hdA
  have hVA : ∀ k ∈ V, k ∉ A := fun k hk => by rw [hVd k hk]; exact hdA'
  simp only [step, locG] at h1 h2 ⊢
  cases hx : locRun A W (keepSt st A).get (.callT dd sp as lt) with
  | none => rw [hx] at h1; cases h1
  | some x =>
    obtain ⟨us, ks⟩ := x
    rw [hx] at h1
    injection h1 with h1
    subst h1
    have L := locRun_ok hx
    obtain ⟨ks0, e1, e2, e3, e4⟩ := locRun_some hx
    have e4 : ks = ks0 := by rw [e4]; exact List.append_nil _
    subst e4
    obtain ⟨_, c2, c3⟩ := callT_some e1
    have hdus : hasS us d = false := by
      cases hh : hasS us d with
      | false => rfl
      | true => exact (hdA' (hWA d (okUs_key e2 hh))).elim
    cases hy : locRun B V (keepSt (st.upd us ks) B).get (.shp d o u) with
    | none => rw [hy] at h2; cases h2
    | some y =>
      obtain ⟨vs, ls⟩ := y
      rw [hy] at h2
      injection h2 with h2
      subst h2
      obtain ⟨ls0, f1, f2, f3, f4⟩ := locRun_some hy
      simp only [evOp] at f1
      cases hv : shV (keepSt (st.upd us ks) B).get o with
      | none => rw [hv] at f1; cases f1
      | some v =>
        rw [hv] at f1
        simp only at f1
        obtain ⟨hl, f1⟩ := bif_some f1
        obtain ⟨hfr, f1⟩ := put_some f1
        simp only [Option.some.injEq, Prod.mk.injEq] at f1
        obtain ⟨rfl, rfl⟩ := f1
        have hkn : ∀ g : Nat → Option SV, fresh g d = true → hkO (.shp d o u) g [(d, some v)] = [] := fun g hg => by simp [hkO, hk, hg]
        have f4 : ls = [] := by rw [f4, hkn _ hfr]; rfl
        subst f4
        have E : ExtT (keepSt (st.upd us ks) B).get (keepSt st B).get := by
          intro j x hj
          obtain ⟨j1, j2, j3⟩ := keepSt_some hj
          rw [get_upd] at j2
          split at j2
          · obtain ⟨y, k1, k2, k3⟩ := sameT_get c2 j2 (fun e => by
              subst e
              simp only [Bool.not_eq_true'] at hdd
              rw [memN_iff.2 j1] at hdd; cases hdd)
            obtain ⟨_, k4, _⟩ := keepSt_some k1
            exact ⟨y, keepSt_of j1 k4 (okV_closed k3), k2.symm, .inl (by rw [k2]; exact k3)⟩
          · split at j2
            · rename_i y hy'
              split at j2
              · cases j2
              · injection j2 with j2
                subst j2
                exact ⟨y, keepSt_of j1 hy' j3, rfl, .inr rfl⟩
            · cases j2
        have hfr2 : fresh (keepSt st B).get d = true := by
          cases hg : (keepSt st B).get d with
          | none => unfold fresh; rw [hg]
          | some x =>
            obtain ⟨j1, j2, j3⟩ := keepSt_some hg
            cases hdead : deadV ks x with
            | true =>
              obtain ⟨t, ht, _⟩ := dead_some hdead
              unfold fresh
              rw [hg]
              simp only [ht, Option.isSome_some, Bool.or_true]
            | false =>
              have : (keepSt (st.upd us ks) B).get d = some x := keepSt_of j1 (by rw [get_upd, if_neg (by rw [hdus]; simp), j2]; simp [hdead]) j3
              unfold fresh at hfr ⊢
              rw [this] at hfr
              rw [hg]
              exact hfr
        have hy2 : locRun B V (keepSt st B).get (.shp d o u) = some ([(d, some v)], []) := by
          unfold locRun
          simp only [evOp, shV_ext E hv, hl, cond_true]
          unfold put
          rw [hfr2, cond_true]
          show (bif okUs B V [(d, some v)] && okKs V [] then some ([(d, some v)], [] ++ hkO (.shp d o u) (keepSt st B).get [(d, some v)]) else none) = _
          rw [f2, show okKs V [] = true from rfl, hkn _ hfr2]
          rfl
        have M := locRun_ok hy2
        refine ⟨st.upd [(d, some v)] [], (st.upd [(d, some v)] []).upd us ks, by rw [hy2]; rfl, by rw [M.acc hVA, hx]; rfl, fun j => ?_⟩
        rw [get_upd, get_upd, get_upd, get_upd]
        have hnd : deadV ks v = false := by
          cases hd : deadV ks v with
          | false => rfl
          | true =>
            obtain ⟨t, ht, hp⟩ := dead_some hd
            obtain ⟨x, hx1, hx2⟩ := isPreAny_some hp
            obtain ⟨z, hz1, hz2⟩ := isPreAny_some (belowT_mem c3 x hx1)
            unfold looksAt at hl
            rw [ht] at hl
            simp only [Bool.and_eq_true] at hl
            rw [isPreAny_mk hz1 (isPre_tr hz2 (isPre_tr hx2 hl.1))] at hlt
            cases hlt
        by_cases hj : d = j
        · subst hj
          simp [hasS, hdus, St.get, hnd]
        · have hn1 : hasS [(d, some v)] j = false := by simp [hasS, nat_beq_false hj]
          rw [hn1]
          simp only [Bool.false_eq_true, if_false]
          cases hasS us j with
          | true =>
            simp only [if_true]
            cases St.get us j with
            | none => rfl
            | some y => simp [deadV_nil]
          | false =>
            simp only [Bool.false_eq_true, if_false]
            cases st.get j with
            | none => rfl
            | some y => cases h3 : deadV ks y <;> simp [h3, deadV_nil]
theorem step_comm {s t : Stp} {st st1 st2 : St} (hi : indep s t = true) (ts : s.tame = true) (tt : t.tame = true) (h1 : step s st = some st1) (h2 : step t st1 = some st2) :
    ∃ st1' st2', step t st = some st1' ∧ step s st1' = some st2' ∧ Eqv st2 st2' := by
  unfold indep at hi
  rcases Bool.or_eq_true_iff.1 hi with hi | hi
  · exact step_commD hi ts tt h1 h2
  · exact step_commS hi ts tt h1 h2
/-- a step that stands apart from those ahead of it may go first -/
theorem fold_first {t : Stp} (tt : t.tame = true) : ∀ {pre post : List Stp} {st st' : St}, (∀ s ∈ pre, indep s t = true ∧ s.tame = true) → fold (pre ++ t :: post) st = some st' →
    ∃ st1 st'', step t st = some st1 ∧ fold (pre ++ post) st1 = some st'' ∧ Eqv st' st''
  | [], post, st, st', _, h => by
    simp only [List.nil_append, fold] at h
    cases hs : step t st with
    | none => rw [hs] at h; cases h
    | some st1 => rw [hs] at h; exact ⟨st1, st', rfl, h, fun _ => rfl⟩
  | s :: pre, post, st, st', hp, h => by
    simp only [List.cons_append, fold] at h
    cases hs : step s st with
    | none => rw [hs] at h; cases h
    | some sta =>
      rw [hs] at h
      obtain ⟨stb, stc, h1, h2, h3⟩ := fold_first tt (fun x hx => hp x (by simp [hx])) h
      obtain ⟨hi, ts⟩ := hp s (by simp)
      obtain ⟨std, ste, h4, h5, h6⟩ := step_comm hi ts tt hs h1
      obtain ⟨stf, h7, h8⟩ := fold_eqv h6 h2
      refine ⟨std, stf, h4, ?_, h3.trans h8⟩
      simp only [List.cons_append, fold, h5]
      exact h7
end Go.Proofs.Bw
namespace Go.Proofs.Bw
open Go

def XOp.isT : XOp → Bool
  | .callT _ _ _ _ => true
  | .stS _ _ _ => true
  | _ => false
def OpWp (P : Program) (n : Nat) (op : XOp) (o : Oper) : Prop :=
  ∀ (σ : Sg) (h : Hp) (st : St) (a : Act) (w : World) (us : St) (ks : List Tag) (Q : Exit → Act → World → Prop), SRel σ h st a.tmps w → a.tmps.size = n →
    evOp st.get (fun us ks => some (us, ks)) op = some (us, ks) → o.wp P a w (fun a' w' => ∃ σ' h', Ext w σ h w' σ' h' ∧ SStep h st a.tmps us ks σ' h' a'.tmps w' ∧ a'.defers = a.defers ∧ (op.isT = true → Stay h h' st us ks)) Q
theorem OpWp.of {P : Program} {n : Nat} {op : XOp} {o : Oper} (hT : op.isT = false)
    (k : ∀ (σ : Sg) (h : Hp) (st : St) (a : Act) (w : World) (r : UK) (Q : Exit → Act → World → Prop), SRel σ h st a.tmps w → a.tmps.size = n →
      evOp st.get (fun us ks => some (us, ks)) op = some r → o.wp P a w (Post σ h w st (fun us ks => some (us, ks)) r a) Q) : OpWp P n op o := by
  intro σ h st a w us ks Q S hn he
  refine Oper.wp_mono ?_ (k σ h st a w (us, ks) Q S hn he)
  rintro a' w' ⟨σ', h', us', ks', e, E, T, hd, _⟩
  simp only [Option.some.injEq, Prod.mk.injEq] at e
  obtain ⟨rfl, rfl⟩ := e
  exact ⟨σ', h', E, T, hd, fun hh => by rw [hT] at hh; cases hh⟩

def guardM (ops : Array Oper) (o : Oper) (s : Stp) : Prop :=
  match o.guard, s.g with
  | none, none => True
  | some (i, want), some (j, want') => want = want' ∧ (ops[i]?).bind (·.dst) = some j
  | _, _ => False
theorem guardM_none {ops : Array Oper} {o : Oper} {op : XOp} {f : Option (List Nat × List Nat)} (h : guardM ops o ⟨op, none, f⟩) : o.guard = none := by
  unfold guardM at h
  cases hg : o.guard with
  | none => rfl
  | some p => rw [hg] at h; exact h.elim
theorem guardM_some {ops : Array Oper} {o : Oper} {op : XOp} {f : Option (List Nat × List Nat)} {j : Nat} {want : Bool} (h : guardM ops o ⟨op, some (j, want), f⟩) : ∃ i, o.guard = some (i, want) ∧ (ops[i]?).bind (·.dst) = some j := by
  unfold guardM at h
  cases hg : o.guard with
  | none => rw [hg] at h; exact h.elim
  | some p =>
    obtain ⟨i, w⟩ := p
    rw [hg] at h
    exact ⟨i, by rw [h.1], h.2⟩
structure Matched (P : Program) (ops : Array Oper) (L : List Nat) (n i : Nat) (s : Stp) : Prop where
  ex : ∃ o, ops[i]? = some o ∧ OpWp P n s.op o ∧ o.dst = dstX s.op ∧ (∀ d, o.dst = some d → d < n ∧ d ∉ L) ∧ guardM ops o s
  tame : s.tame = true
/-- what never changes in a frame: the deferred calls, and the slots L -/
structure Fx where
  df : List Deferred
  L : List Nat
  val : Nat → Value
structure Fixed (fx : Fx) (a : Act) : Prop where
  df : a.defers = fx.df
  val : ∀ i ∈ fx.L, a.tmps.getD i undef = fx.val i
/-- what is known behind a piece of code -/
def Went (w : World) (σ : Sg) (h : Hp) (fx : Fx) (n : Nat) (st' : St) (a' : Act) (w' : World) : Prop :=
  ∃ σ' h', Ext w σ h w' σ' h' ∧ SRel σ' h' st' a'.tmps w' ∧ a'.tmps.size = n ∧ Fixed fx a'
/-- an operation writes its own slot alone -/
def Same (o : Oper) (a a' : Act) : Prop := ∀ i, o.dst ≠ some i → a'.tmps.getD i undef = a.tmps.getD i undef
theorem Same.put {o : Oper} {a a1 : Act} (h : a1.tmps = a.tmps) (v : Value) : Same o a (a1.put o.dst v) := by
  intro i hi
  cases hd : o.dst with
  | none => simp only [Act.put, h]
  | some d =>
    have hne : d ≠ i := fun e => hi (by rw [hd, e])
    simp only [Act.put, h, Array.getD_eq_getD_getElem?, Array.getElem?_setIfInBounds_ne hne]
theorem wp_same {P : Program} {o : Oper} {a : Act} {w : World} {K : Act → World → Prop} {Q : Exit → Act → World → Prop} (hh : o.wp P a w K Q) : o.wp P a w (fun a' w' => K a' w' ∧ Same o a a') Q := by
  unfold Oper.wp at *
  generalize (execOp a.eval o).run P w = r at *
  cases r with
  | ok n w' =>
    cases n <;> simp only [Oper.upon] at hh ⊢
    case value v => exact ⟨hh, Same.put rfl v⟩
    case skip => exact ⟨hh, Same.put rfl _⟩
    case defer d => exact ⟨hh, Same.put (a1 := { a with defers := d :: a.defers }) rfl _⟩
    case enter f args => exact Calls.mono hh (fun e w'' he => by cases e <;> first | exact ⟨he, Same.put rfl _⟩ | exact he)
    case row row args => exact Rows.mono hh (fun _ _ he => ⟨he, Same.put rfl _⟩)
  | halt x w' => cases x <;> simp only [Oper.upon] at hh ⊢ <;> exact hh
theorem Fixed.step {fx : Fx} {o : Oper} {a a' : Act} (F : Fixed fx a) (hL : ∀ d, o.dst = some d → d ∉ fx.L) (hd : a'.defers = a.defers) (hs : Same o a a') : Fixed fx a' :=
  ⟨hd.trans F.df, fun i hi => (hs i fun e => hL i e hi).trans (F.val i hi)⟩

section
variable {P : Program} {ops : Array Oper} {n : Nat} {Q : Exit → Act → World → Prop} {σ : Sg} {h : Hp} {st st' : St} {a : Act} {w : World} {fx : Fx}

theorem slot_bool {tm : Array Value} (S : SRel σ h st tm w) {j : Nat} {c : Bool} (hj : st.get j = some ⟨.bool, c⟩) : tm[j]? = some (.bool c) := by
  obtain ⟨h1, c', hw, hr⟩ := S.vals j _ hj
  simp only [Rel] at hr
  have := slot_single rfl hw
  rw [this] at hr
  injection hr with hr _
  rw [Array.getD_eq_getD_getElem?] at hr
  rw [Array.getElem?_eq_getElem h1] at hr ⊢
  simpa using hr
theorem slot_undef {tm : Array Value} (S : SRel σ h st tm w) {j : Nat} (hj : st.get j = some undefV) : tm[j]? = some undef := by
  obtain ⟨h1, c', hw, hr⟩ := S.vals j _ hj
  simp only [undefV, Rel, nilVal] at hr
  have := slot_single rfl hw
  rw [this] at hr
  injection hr with hr _
  rw [Array.getD_eq_getD_getElem?] at hr
  rw [Array.getElem?_eq_getElem h1] at hr ⊢
  simpa using hr

theorem step_ok {i : Nat} {s : Stp} (M : Matched P ops fx.L n i s) (S : SRel σ h st a.tmps w) (hn : a.tmps.size = n) (F : Fixed fx a) (hst : step s st = some st') {K : Act → World → Prop}
    (hK : ∀ a' w', Went w σ h fx n st' a' w' → K a' w') : wpOp P ops Q i K a w := by
  obtain ⟨⟨o, hi, hop, hd, hlt, hg⟩, tame⟩ := M
  obtain ⟨op, gd, f⟩ := s
  unfold wpOp
  simp only [hi]
  cases f with
  | none =>
    cases gd with
    | some _ => cases hst
    | none =>
      rw [if_pos (by unfold Region.wanted; rw [guardM_none hg])]
      simp only [step] at hst
      cases hx : evOp st.get (fun us ks => some (us, ks)) op with
      | none => rw [hx] at hst; cases hst
      | some p =>
        obtain ⟨us, ks⟩ := p
        rw [hx] at hst
        injection hst with hst
        subst hst
        refine .inl (Oper.wp_mono ?_ (wp_same (hop σ h st a w us ks Q S hn hx)))
        rintro a' w' ⟨⟨σ', h', E, T, hdf, _⟩, hsame⟩
        exact hK a' w' ⟨σ', h', E, T.rel, by rw [T.tms.1]; exact hn, F.step (fun d hd => (hlt d hd).2) hdf hsame⟩
  | some AW =>
    obtain ⟨A, W⟩ := AW
    simp only [step] at hst
    simp only [Stp.tame, Bool.and_eq_true] at tame
    have hWA := subN_spec tame.1
    cases hx : locG gd A W (keepSt st A).get op with
    | none => rw [hx] at hst; cases hst
    | some p =>
      obtain ⟨us, ks⟩ := p
      rw [hx] at hst
      injection hst with hst
      subst hst
      have S1 := S.keep A
      rcases locG_cases hx with ⟨hr, hgc⟩ | ⟨hr, j, want, rfl, hgc⟩
      · have hwant : Region.wanted o (yielded ops a.tmps) = true := by
          rcases hgc with rfl | ⟨j, want, rfl, hj⟩
          · unfold Region.wanted; rw [guardM_none hg]
          · obtain ⟨gi, g1, g2⟩ := guardM_some hg
            unfold Region.wanted yielded
            rw [g1]
            simp only [g2, Option.bind_some, slot_bool S1 hj, beq_self_eq_true]
        rw [if_pos hwant]
        obtain ⟨ks0, he, hu, hk, rfl⟩ := locRun_some hr
        refine .inl (Oper.wp_mono ?_ (wp_same (hop σ _ (keepSt st A) a w us ks0 Q S1 hn he)))
        rintro a' w' ⟨⟨σ', h2, E, T, hdf, hst⟩, hsame⟩
        have Y : ks0 ++ hkO op (St.get (keepSt st A)) us = ks0 ++ Bw.hk (St.get (keepSt st A)) us ∨ (ks0 ++ hkO op (St.get (keepSt st A)) us = ks0 ∧ Stay (hpart (fun k => (St.get (keepSt st A) k).isSome) h) h2 (keepSt st A) us ks0) := by
          cases hT : op.isT with
          | true =>
            refine .inr ⟨?_, hst hT⟩
            cases op <;> first | (exact List.append_nil _) | (cases hT)
          | false =>
            refine .inl ?_
            cases op <;> first | rfl | (cases hT)
        obtain ⟨h', E', T'⟩ := SStep.frame2 S hWA hu E T Y
        exact hK a' w' ⟨σ', h', E', T'.rel, by rw [T'.tms.1]; exact hn, F.step (fun d hd => (hlt d hd).2) hdf hsame⟩
      · have hwant : ¬ (Region.wanted o (yielded ops a.tmps) = true) := by
          obtain ⟨gi, g1, g2⟩ := guardM_some hg
          unfold Region.wanted yielded
          rw [g1]
          rcases hgc with ⟨c, hc, hne⟩ | hu
          · simp only [g2, Option.bind_some, slot_bool S1 hc]
            simpa using hne
          · simp only [g2, Option.bind_some, slot_undef S1 hu, undef]
            simp
        rw [if_neg hwant]
        obtain ⟨d, e1, e2, e3, rfl, rfl⟩ := locSkip_some hr
        rw [hd, e1]
        have hsz : d < a.tmps.size := by rw [hn]; exact (hlt d (by rw [hd, e1])).1
        have T : SStep (hpart (fun k => (St.get (keepSt st A) k).isSome) h) (keepSt st A) a.tmps [(d, some undefV)] [] σ _ (a.tmps.setIfInBounds d undef) w :=
          SRel.put S1 e3 hsz σ.le_refl S1.inv (fun _ _ hb => hb) (fun _ _ hb => .inl hb) ⟨[undef], rfl, rfl⟩ rfl (fun u hu => by simp [undefV, Ty.looks] at hu)
        obtain ⟨h', E', T'⟩ := SStep.frame S hWA (by simp [okUs, memN_iff.2 e2, okV, undefV, Ty.looks]) (Ext.refl w σ _) T
        have hkn : hk (keepSt st A).get [(d, some undefV)] = [] := by simp [hk, e3]
        rw [hkn] at T'
        exact hK _ w ⟨σ, h', E', T'.rel, by simp [Act.put, hn], F.step (o := o) (fun d hd => (hlt d hd).2) rfl (by rw [← e1, ← hd]; exact Same.put rfl _)⟩

theorem Went.trans {st2 : St} {a2 : Act} {w1 w2 : World} {σ1 : Sg} {h1 : Hp} (E : Ext w σ h w1 σ1 h1) (k : Went w1 σ1 h1 fx n st2 a2 w2) : Went w σ h fx n st2 a2 w2 := by
  obtain ⟨σ2, h2, E2, S2, e1, e2⟩ := k
  exact ⟨σ2, h2, E.trans E2, S2, e1, e2⟩
/-- in the order in which they stand -/
theorem fold_ok : ∀ (l : List Stp) (i : Nat) {σ : Sg} {h : Hp} {st st' : St} {a : Act} {w : World}, (∀ k s, l[k]? = some s → Matched P ops fx.L n (i + k) s) → SRel σ h st a.tmps w → a.tmps.size = n → Fixed fx a →
    fold l st = some st' → (∀ a' w', Went w σ h fx n st' a' w' → Q .normal a' w') → wpOps P ops Q (List.range' i l.length) a w
  | [], i, σ, h, st, st', a, w, _, S, hn, F, hf, hQ => by
    injection hf with hf
    subst hf
    exact hQ a w ⟨σ, h, Ext.refl _ _ _, S, hn, F⟩
  | s :: r, i, σ, h, st, st', a, w, M, S, hn, F, hf, hQ => by
    simp only [fold] at hf
    cases hs : step s st with
    | none => rw [hs] at hf; cases hf
    | some st1 =>
      rw [hs] at hf
      rw [List.length_cons, List.range'_succ, wpOps_cons]
      refine step_ok (M 0 s rfl) S hn F hs fun a1 w1 ⟨σ1, h1, E, S1, n1, d1⟩ => ?_
      refine fold_ok r (i + 1) (fun k s hk => by have := M (k + 1) s hk; rwa [show i + (k + 1) = i + 1 + k by omega] at this) S1 n1 d1 hf fun a2 w2 k2 => hQ a2 w2 (Went.trans E k2)

/-! drawn orders -/
theorem getD_lt {l : Array Bool} {i : Nat} (h : i < l.size) (b c : Bool) : l.getD i b = l.getD i c := by simp [Array.getD_eq_getD_getElem?, h]
/-- any order that the edges allow -/
theorem any_ok {sa : Nat → Stp} {an : Nat → Nat → Bool} (M : ∀ k, k < ops.size → Matched P ops fx.L n k (sa k))
    (C1 : ∀ j o, ops[j]? = some o → ∀ e ∈ o.after, Region.binds .any e = true → e.on < j)
    (C2 : ∀ j o i, ops[j]? = some o → i < j → an j i = true → ∃ e ∈ o.after, Region.binds .any e = true ∧ (e.on = i ∨ (i < e.on ∧ an e.on i = true)))
    (C3 : ∀ j i, i < j → j < ops.size → an j i = false → indep (sa i) (sa j) = true) :
    ∀ (fuel : Nat) (rem : List Nat) (listed : Array Bool) {σ : Sg} {h : Hp} {st st' : St} {a : Act} {w : World}, rem.length ≤ fuel → rem.Pairwise (· < ·) → (∀ i ∈ rem, i < ops.size) → listed.size = ops.size →
      (∀ i, i < ops.size → (listed.getD i true = false ↔ i ∈ rem)) → (∀ m i, m < ops.size → m ∉ rem → i < m → an m i = true → i ∉ rem) →
      SRel σ h st a.tmps w → a.tmps.size = n → Fixed fx a → fold (rem.map sa) st = some st' → (∀ a' w' st'', Eqv st' st'' → Went w σ h fx n st'' a' w' → Q .normal a' w') → wpAny P .any ops Q fuel listed a w := by
  intro fuel
  have hready0 : ∀ (rem : List Nat) (listed : Array Bool), rem.Pairwise (· < ·) → (∀ i ∈ rem, i < ops.size) → listed.size = ops.size → (∀ i, i < ops.size → (listed.getD i true = false ↔ i ∈ rem)) →
      Region.ready .any ops listed = [] → rem = [] := by
    intro rem listed hp hlt hsz hl hr
    cases rem with
    | nil => rfl
    | cons j rem =>
      exfalso
      have hj := hlt j (by simp)
      have : j ∈ Region.ready .any ops listed := by
        rw [mem_ready]
        refine ⟨(hl j hj).2 (by simp), ops[j], Array.getElem?_eq_getElem hj, fun e he hb => ?_⟩
        have hej := C1 j _ (Array.getElem?_eq_getElem hj) e he hb
        have hes : e.on < ops.size := by omega
        cases hx : listed.getD e.on false with
        | true => rfl
        | false =>
          rw [getD_lt (by omega) false true] at hx
          have := (hl _ hes).1 hx
          rcases List.mem_cons.1 this with h1 | h1
          · omega
          · have := (List.pairwise_cons.1 hp).1 _ h1; omega
      rw [hr] at this; cases this
  induction fuel with
  | zero =>
    intro rem listed σ h st st' a w hfu hp hlt hsz hl hdn S hn F hf hQ
    have : rem = [] := List.eq_nil_of_length_eq_zero (by omega)
    subst this
    injection hf with hf
    subst hf
    refine ⟨?_, hQ a w st (fun _ => rfl) ⟨σ, h, Ext.refl _ _ _, S, hn, F⟩⟩
    cases hr : Region.ready .any ops listed with
    | nil => rfl
    | cons j r =>
      have hj : j ∈ Region.ready .any ops listed := by rw [hr]; simp
      obtain ⟨h1, o, ho, _⟩ := mem_ready.1 hj
      have := (hl j (Array.getElem?_eq_some_iff.1 ho).1).1 h1
      cases this
  | succ fuel ih =>
    intro rem listed σ h st st' a w hfu hp hlt hsz hl hdn S hn F hf hQ
    refine ⟨fun hr => ?_, fun j hj => ?_⟩
    · have := hready0 rem listed hp hlt hsz hl hr
      subst this
      injection hf with hf
      subst hf
      exact hQ a w st (fun _ => rfl) ⟨σ, h, Ext.refl _ _ _, S, hn, F⟩
    · obtain ⟨h1, o, ho, hall⟩ := mem_ready.1 hj
      have hjs := (Array.getElem?_eq_some_iff.1 ho).1
      have hjr := (hl j hjs).1 h1
      obtain ⟨pre, post, rfl⟩ := List.append_of_mem hjr
      have hpp := List.pairwise_append.1 hp
      have hun : ∀ i, i < ops.size → listed.getD i false = true → i ∉ pre ++ j :: post := by
        intro i hi hx hm
        rw [getD_lt (by omega) false true] at hx
        rw [(hl i hi).2 hm] at hx; cases hx
      have hanc : ∀ i, i < j → an j i = true → i ∉ pre ++ j :: post := by
        intro i hi hb
        obtain ⟨e, he, hbe, hcase⟩ := C2 j o i ho hi hb
        have hej := C1 j o ho e he hbe
        have hel := hun e.on (by omega) (hall e he hbe)
        rcases hcase with rfl | ⟨h2, h3⟩
        · exact hel
        · exact hdn e.on i (by omega) hel h2 h3
      have hpre : ∀ i ∈ pre, i < j := fun i hi => hpp.2.2 i hi j (by simp)
      have hindep : ∀ s ∈ pre.map sa, indep s (sa j) = true ∧ s.tame = true := by
        intro s hs
        obtain ⟨i, hi, rfl⟩ := List.mem_map.1 hs
        refine ⟨C3 j i (hpre i hi) hjs ?_, (M i (hlt i (by simp [hi]))).tame⟩
        cases hb : an j i with
        | false => rfl
        | true => exact (hanc i (hpre i hi) hb (by simp [hi])).elim
      rw [List.map_append, List.map_cons] at hf
      obtain ⟨st1, st2, hs1, hs2, hs3⟩ := fold_first (M j hjs).tame hindep hf
      rw [← List.map_append] at hs2
      refine step_ok (M j hjs) S hn F hs1 fun a1 w1 ⟨σ1, h1', E, S1, n1, d1⟩ => ?_
      refine ih (pre ++ post) (listed.setIfInBounds j true) ?_ ?_ ?_ (by simpa using hsz) ?_ ?_ S1 n1 d1 hs2 fun a2 w2 st3 he k2 => hQ a2 w2 st3 (hs3.trans he) (Went.trans E k2)
      · simp only [List.length_append, List.length_cons] at hfu ⊢; omega
      · exact List.pairwise_append.2 ⟨hpp.1, (List.pairwise_cons.1 hpp.2.1).2, fun x hx y hy => hpp.2.2 x hx y (by simp [hy])⟩
      · intro i hi
        exact hlt i (by rcases List.mem_append.1 hi with hi | hi <;> simp [hi])
      · intro i hi
        by_cases hij : j = i
        · subst hij
          constructor
          · intro hx
            exfalso
            have : (listed.setIfInBounds j true).getD j true = true := by simp [Array.getD_eq_getD_getElem?, hsz, hi]
            rw [this] at hx; cases hx
          · intro hm
            exfalso
            rcases List.mem_append.1 hm with hm | hm
            · have := hpre j hm; omega
            · have := (List.pairwise_cons.1 hpp.2.1).1 j hm; omega
        · rw [getD_set_ne true hij, hl i hi]
          simp only [List.mem_append, List.mem_cons]
          constructor
          · rintro (h2 | h2 | h2)
            · exact .inl h2
            · exact (hij h2.symm).elim
            · exact .inr h2
          · rintro (h2 | h2)
            · exact .inl h2
            · exact .inr (.inr h2)
      · intro m i hm hmr him hb hir
        by_cases hmj : m = j
        · subst hmj
          exact hanc i him hb (by rcases List.mem_append.1 hir with hi | hi <;> simp [hi])
        · refine hdn m i hm (fun hm2 => hmr ?_) him hb (by rcases List.mem_append.1 hir with hi | hi <;> simp [hi])
          rcases List.mem_append.1 hm2 with h2 | h2
          · simp [h2]
          · rcases List.mem_cons.1 h2 with h2 | h2
            · exact (hmj h2).elim
            · simp [h2]
end
end Go.Proofs.Bw

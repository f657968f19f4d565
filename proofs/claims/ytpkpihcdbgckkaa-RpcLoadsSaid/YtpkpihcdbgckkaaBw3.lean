/- The library of this work, part 3: an evaluator of annotated code, and that what it answers is what the machine does. No conditions. -/
import Derived.Test.YtpkpihcdbgckkaaBw2
import Derived.ScopeJumps
set_option linter.unusedVariables false
set_option linter.unusedSimpArgs false
set_option linter.unnecessarySimpa false
namespace Go.Proofs.Bw
open Go

def gdL : Option (Nat × Bool) → List Nat
  | some (k, _) => [k]
  | none => []
def pickOf (j : Nat) (want : Bool) (res d : Nat) (l : List Nat) : XOp :=
  .pickG d (.t j) (bif want then .t res else .c ⟨.bool, true⟩) (bif want then .c ⟨.bool, false⟩ else .t res) l
def flat : Option (Nat × Bool) → XI → List Stp
  | _, .nil => []
  | gd, .op o f r => ⟨o, gd, f⟩ :: flat gd r
  | gd, .grp j want b res d l r => flat (some (j, want)) b ++ ⟨pickOf j want res d l, gd, some (gdL gd ++ (j :: res :: d :: l), d :: l)⟩ :: flat gd r
  | gd, .grpS j want b res d l _ r => flat (some (j, want)) b ++ ⟨pickOf j want res d l, gd, some (gdL gd ++ (j :: res :: d :: l), d :: l)⟩ :: flat gd r
/-- the slots that are skipped, one after the other -/
def skp (j : Nat) (l : List Nat) : List Nat → XI → Option (List Nat)
  | sk, .nil => some sk
  | sk, .op o (some (A, W)) r => (match dstX o with
    | some d => bif memN W d && memN l d && !memN sk d && memN A j then skp j l (d :: sk) r else none
    | none => none)
  | _, .op _ none _ => none
  | sk, .grp j' _ b res' d' l' r => bif memN sk j' && memN l j' then (match skp j' l sk b with
      | some sk' => bif memN l d' && !memN sk' d' && subN l' l then skp j l (d' :: sk') r else none
      | none => none) else none
  | _, .grpS _ _ _ _ _ _ _ _ => none
def xiOk (gl : Option (Nat × List Nat)) : XI → Bool
  | .nil => true
  | .op _ none r => gl.isNone && xiOk gl r
  | .op _ (some (A, W)) r => (match gl with
    | none => true
    | some (j, l) => memN A j && subN W l) && xiOk gl r
  | .grp j _ b _ d l r => (match gl with
    | none => true
    | some (_, l0) => memN l0 d && subN l l0) && !memN l j && xiOk (some (j, l)) b && (skp j l [] b).isSome && xiOk gl r
  | .grpS j _ b _ d l ex r => gl.isNone && !memN (l ++ ex) j && xiOk (some (j, l ++ ex)) b && (skp j l [] b).isSome && xiOk none r

def Out (l : List Nat) (a b : St) : Prop := ∀ s, s ∉ l → b.get s = a.get s ∨ (b.get s = none ∧ ∃ v k q, a.get s = some v ∧ v.T.looks = some (k :: q) ∧ k ∈ l)
theorem Out.refl (l : List Nat) (a : St) : Out l a a := fun _ _ => .inl rfl
theorem Out.trans {l : List Nat} {a b c : St} (h : Out l a b) (k : Out l b c) : Out l a c := by
  intro s hs
  rcases k s hs with k1 | ⟨k1, v, x, q, k2, k3, k4⟩
  · rcases h s hs with h1 | ⟨h1, h2⟩
    · exact .inl (k1.trans h1)
    · exact .inr ⟨k1.trans h1, h2⟩
  · rcases h s hs with h1 | ⟨h1, h2⟩
    · exact .inr ⟨k1, v, x, q, by rw [← h1]; exact k2, k3, k4⟩
    · rw [h1] at k2; cases k2
theorem Out.mono {l m : List Nat} {a b : St} (h : Out l a b) (hs : ∀ k ∈ l, k ∈ m) : Out m a b := by
  intro s hm
  rcases h s (fun hl => hm (hs s hl)) with h1 | ⟨h1, v, k, q, h2, h3, h4⟩
  · exact .inl h1
  · exact .inr ⟨h1, v, k, q, h2, h3, hs k h4⟩
theorem Out.eqv {l : List Nat} {a b c : St} (h : Out l a b) (e : Eqv a c) : Out l c b := by
  intro s hs; rw [← e s]; exact h s hs
theorem LocOk.out {A W : List Nat} {us : St} {ks : List Tag} (L : LocOk A W us ks) (st : St) : Out W st (st.upd us ks) := by
  intro s hs
  have hns : hasS us s = false := by
    cases hh : hasS us s with
    | false => rfl
    | true => exact (hs (okUs_key L.us hh)).elim
  rw [get_upd, if_neg (show ¬ (hasS us s = true) by rw [hns]; simp)]
  cases hv : st.get s with
  | none => exact .inl rfl
  | some v =>
    cases hd : deadV ks v with
    | false => simp [hd]
    | true =>
      obtain ⟨k, q, hl, hk⟩ := L.dead hd
      exact .inr ⟨by simp [hd], v, k, q, rfl, hl, hk⟩
theorem Out.bool {l : List Nat} {a b : St} (h : Out l a b) {j : Nat} (hj : j ∉ l) {c : Bool} (ha : a.get j = some ⟨.bool, c⟩) : b.get j = some ⟨.bool, c⟩ := by
  rcases h j hj with h1 | ⟨_, v, k, q, h2, h3, _⟩
  · rw [h1]; exact ha
  · rw [ha] at h2; injection h2 with h2; subst h2; cases h3
theorem Out.fresh {l : List Nat} {a b : St} (h : Out l a b) {j : Nat} (hj : j ∉ l) (ha : fresh a.get j = true) : fresh b.get j = true := by
  unfold Bw.fresh at *
  rcases h j hj with h1 | ⟨h1, _⟩
  · rw [h1]; exact ha
  · rw [h1]
theorem keep_bool {st : St} {A : List Nat} {j : Nat} {c : Bool} (hm : memN A j = true) (h : st.get j = some ⟨.bool, c⟩) : (keepSt st A).get j = some ⟨.bool, c⟩ := keepSt_of (memN_iff.1 hm) h rfl
theorem keep_fresh {st : St} {A : List Nat} {j : Nat} (h : fresh st.get j = true) : fresh (keepSt st A).get j = true := by
  unfold Bw.fresh at *
  rw [get_keepSt]
  split
  · rfl
  · rename_i v hv
    split at hv
    · cases hx : st.get j with
      | none => rw [hx] at hv; cases hv
      | some u =>
        rw [hx] at hv h
        cases ho : okV A u with
        | true => simp only [ho, cond_true, Option.some.injEq] at hv; subst hv; exact h
        | false => simp [ho] at hv
    · cases hv

theorem hasS_none2 {l : List Nat} {s : Nat} : hasS (none2 l) s = memN l s := by
  induction l with
  | nil => rfl
  | cons k r ih => simp only [none2, List.map_cons, hasS, memN] at ih ⊢; rw [← ih]
theorem okUs_none2 {A W : List Nat} : ∀ {l : List Nat}, (∀ k ∈ l, k ∈ W) → okUs A W (none2 l) = true
  | [], _ => rfl
  | k :: r, h => by
    simp only [none2, List.map_cons, okUs, Bool.and_eq_true, Bool.and_true]
    exact ⟨memN_iff.2 (h k (by simp)), okUs_none2 (l := r) fun x hx => h x (by simp [hx])⟩
theorem okKs_tags1 {W : List Nat} : ∀ {l : List Nat}, (∀ k ∈ l, k ∈ W) → okKs W (tags1 l) = true
  | [], _ => rfl
  | k :: r, h => by
    simp only [tags1, List.map_cons, okKs, Bool.and_eq_true]
    exact ⟨memN_iff.2 (h k (by simp)), okKs_tags1 (l := r) fun x hx => h x (by simp [hx])⟩
theorem isPreAny_of {ks : List Tag} {t u : Tag} (ht : t ∈ ks) (hp : isPre t u = true) : isPreAny ks u = true := by
  induction ks with
  | nil => cases ht
  | cons k r ih =>
    simp only [isPreAny, Bool.or_eq_true]
    rcases List.mem_cons.1 ht with rfl | ht
    · exact .inl hp
    · exact .inr (ih ht)
theorem dead_any {ks : List Tag} {v : SV} {t u : Tag} (hl : v.T.looks = some u) (ht : t ∈ ks) (hp : isPre t u = true) : deadV ks v = true := by
  unfold deadV; rw [hl]; exact isPreAny_of ht hp
theorem dead_mem {ks : List Tag} {v : SV} {k : Nat} {q : Tag} (hl : v.T.looks = some (k :: q)) (hm : [k] ∈ ks) : deadV ks v = true := dead_of hl hm isPre_single

/-- the pick behind a group -/
theorem pick_step {gd : Option (Nat × Bool)} {j res d : Nat} {want c v : Bool} {l : List Nat} {st0 st3 : St} (hdl : memN l d = false) (hj : st3.get j = some ⟨.bool, c⟩)
    (hv : (bif bbeq c want then st3.get res else some ⟨.bool, !want⟩) = some ⟨.bool, v⟩) (hf : fresh st3.get d = true) (ho : Out l st0 st3)
    (hg : ∀ k w, gd = some (k, w) → st3.get k = some ⟨.bool, w⟩) :
    ∃ st4, step ⟨pickOf j want res d l, gd, some (gdL gd ++ (j :: res :: d :: l), d :: l)⟩ st3 = some st4 ∧ Eqv (st0.upd ((d, some ⟨.bool, v⟩) :: none2 l) (tags1 l)) st4 ∧ Out (d :: l) st0 st4 := by
  generalize hA : gdL gd ++ (j :: res :: d :: l) = A
  have mA : ∀ x, x ∈ (j :: res :: d :: l) → memN A x = true := fun x hx => memN_iff.2 (by rw [← hA]; exact List.mem_append.2 (.inr hx))
  have hlg : locG gd A (d :: l) (keepSt st3 A).get (pickOf j want res d l) = locRun A (d :: l) (keepSt st3 A).get (pickOf j want res d l) := by
    unfold locG
    cases gd with
    | none => rfl
    | some p =>
      obtain ⟨k, w⟩ := p
      have hk := keep_bool (A := A) (memN_iff.2 (by rw [← hA]; simp [gdL])) (hg k w rfl)
      simp only [hk]
      cases w <;> rfl
  have hrun : locRun A (d :: l) (keepSt st3 A).get (pickOf j want res d l) = some ((d, some ⟨.bool, v⟩) :: none2 l, tags1 l ++ hk (keepSt st3 A).get ((d, some ⟨.bool, v⟩) :: none2 l)) := by
    unfold locRun pickOf
    simp only [evOp, opv]
    rw [keep_bool (mA j (by simp)) hj]
    simp only [keep_fresh hf, hdl, Bool.not_false, Bool.and_self, cond_true]
    have hsel : (match (bif (c : Bool) then opv (keepSt st3 A).get (bif want then .t res else .c ⟨.bool, true⟩) else opv (keepSt st3 A).get (bif want then .c ⟨.bool, false⟩ else .t res)) with
        | some ⟨.bool, v⟩ => some (v : Bool)
        | _ => none) = some v := by
      cases c <;> cases want <;> simp only [bbeq, cond_true, cond_false, Bool.not_true, Bool.not_false, opv] at hv ⊢
      · rw [keep_bool (mA res (by simp)) hv]
      · injection hv with hv; injection hv with _ hv; subst hv; rfl
      · injection hv with hv; injection hv with _ hv; subst hv; rfl
      · rw [keep_bool (mA res (by simp)) hv]
    have hok : okUs A (d :: l) ((d, some ⟨.bool, v⟩) :: none2 l) = true := by
      simp only [okUs, Bool.and_eq_true]
      exact ⟨⟨by simp [memN], rfl⟩, okUs_none2 fun k hk => by simp [hk]⟩
    have hok2 : okKs (d :: l) (tags1 l) = true := okKs_tags1 fun k hk => by simp [hk]
    have hsel' := congrArg (fun o => optM o (none : Option UK) fun v => bif okUs A (d :: l) ((d, some ⟨.bool, v⟩) :: none2 l) && okKs (d :: l) (tags1 l) then some ((d, some (⟨.bool, v⟩ : SV)) :: none2 l, tags1 l ++ hk (keepSt st3 A).get ((d, some ⟨.bool, v⟩) :: none2 l)) else none) hsel
    refine hsel'.trans ?_
    simp only [optM, hok, hok2, Bool.and_self, cond_true]
  have L := locRun_ok hrun
  refine ⟨_, by simp only [step, hlg, hrun, Option.map_some], fun s => ?_, (ho.mono fun k hk => by simp [hk]).trans (L.out st3)⟩
  rw [get_upd, get_upd]
  cases hs : hasS ((d, some ⟨.bool, v⟩) :: none2 l) s with
  | true => rfl
  | false =>
    simp only [Bool.false_eq_true, if_false]
    simp only [hasS, Bool.or_eq_false_iff, hasS_none2] at hs
    have hsl : s ∉ l := fun hh => by rw [memN_iff.2 hh] at hs; simp at hs
    have hdead : ∀ u : SV, deadV (tags1 l ++ hk (keepSt st3 A).get ((d, some ⟨.bool, v⟩) :: none2 l)) u = deadV (tags1 l) u := by
      intro u
      cases h1 : deadV (tags1 l) u with
      | true =>
        obtain ⟨t, ht, hp⟩ := dead_some h1
        obtain ⟨x, hx, hpre⟩ := isPreAny_some hp
        exact dead_any ht (List.mem_append.2 (.inl hx)) hpre
      | false =>
        cases h2 : deadV (tags1 l ++ hk (keepSt st3 A).get ((d, some ⟨.bool, v⟩) :: none2 l)) u with
        | false => rfl
        | true =>
          obtain ⟨t, ht, hp⟩ := dead_some h2
          obtain ⟨x, hx, hpre⟩ := isPreAny_some hp
          rcases List.mem_append.1 hx with hx | hx
          · rw [dead_any ht hx hpre] at h1; cases h1
          · have hff : fresh (keepSt st3 A).get d = true := keep_fresh hf
            simp only [Bw.hk] at hx
            rw [hff] at hx
            simp only [cond_true] at hx
            obtain ⟨k, rfl, hk⟩ := hk_sub hx
            rw [hasS_none2] at hk
            have : [k] ∈ tags1 l := List.mem_map.2 ⟨k, memN_iff.1 hk, rfl⟩
            rw [dead_any ht this hpre] at h1; cases h1
    rcases ho s hsl with h1 | ⟨h1, u, k, q, h2, h3, h4⟩
    · rw [h1]
      cases st0.get s with
      | none => rfl
      | some u => simp only [hdead]
    · rw [h1, h2]
      have : deadV (tags1 l) u = true := dead_mem h3 (List.mem_map.2 ⟨k, h4, rfl⟩)
      simp [this]

theorem locG_undef {j : Nat} {w : Bool} {A W : List Nat} {g : Nat → Option SV} {o : XOp} (h : g j = some undefV) : locG (some (j, w)) A W g o = locSkip W g o := by
  unfold locG
  simp only [h, undefV]
  rfl
theorem locG_not {j : Nat} {w c : Bool} {A W : List Nat} {g : Nat → Option SV} {o : XOp} (h : g j = some ⟨.bool, c⟩) (hne : c ≠ w) : locG (some (j, w)) A W g o = locSkip W g o := by
  unfold locG
  simp only [h]
  have : bbeq c w = false := by cases c <;> cases w <;> simp_all [bbeq]
  simp only [this, cond_false]
theorem locG_yes {j : Nat} {w : Bool} {A W : List Nat} {g : Nat → Option SV} {o : XOp} (h : g j = some ⟨.bool, w⟩) : locG (some (j, w)) A W g o = locRun A W g o := by
  unfold locG
  simp only [h]
  cases w <;> rfl
/-- a group that is skipped -/
theorem skip_fold : ∀ (b : XI) {gj : Nat} {want : Bool} {l sk sk' : List Nat} {st : St}, skp gj l sk b = some sk' → ((∃ c : Bool, st.get gj = some ⟨.bool, c⟩ ∧ c ≠ want ∧ gj ∉ l) ∨ (gj ∈ sk)) →
    (∀ s ∈ sk, st.get s = some undefV) → (∀ s ∈ l, s ∉ sk → fresh st.get s = true) →
    ∃ st', fold (flat (some (gj, want)) b) st = some st' ∧ (∀ s, s ∉ l → st'.get s = st.get s) ∧ (∀ s ∈ sk', st'.get s = some undefV) ∧ (∀ s ∈ l, s ∉ sk' → fresh st'.get s = true) ∧ (∀ s ∈ sk, s ∈ sk')
  | .nil, gj, want, l, sk, sk', st, hs, hg, hu, hf => by
    injection hs with hs
    subst hs
    exact ⟨st, rfl, fun _ _ => rfl, hu, hf, fun _ h => h⟩
  | .op o none r, gj, want, l, sk, sk', st, hs, hg, hu, hf => by cases hs
  | .op o (some (A, W)) r, gj, want, l, sk, sk', st, hs, hg, hu, hf => by
    simp only [skp] at hs
    split at hs
    · rename_i d hd
      obtain ⟨hc, hs⟩ := bif_some hs
      simp only [Bool.and_eq_true, Bool.not_eq_true'] at hc
      obtain ⟨⟨⟨hW, hl⟩, hns⟩, hA⟩ := hc
      have hdl := memN_iff.1 hl
      have hdn : d ∉ sk := fun h => by rw [memN_iff.2 h] at hns; cases hns
      have hdf := hf d hdl hdn
      obtain ⟨st1, e1, e2⟩ : ∃ st1, step ⟨o, some (gj, want), some (A, W)⟩ st = some st1 ∧ st1 = st.upd [(d, some undefV)] [] := by
        refine ⟨_, ?_, rfl⟩
        simp only [step]
        have : locG (some (gj, want)) A W (keepSt st A).get o = some ([(d, some undefV)], []) := by
          have hskip : locSkip W (keepSt st A).get o = some ([(d, some undefV)], []) := by
            unfold locSkip
            rw [hd]
            simp only [hW, keep_fresh hdf, Bool.and_self, cond_true]
          rcases hg with ⟨c, hc, hne, _⟩ | hg
          · exact (locG_not (keep_bool hA hc) hne).trans hskip
          · exact (locG_undef (keepSt_of (memN_iff.1 hA) (hu gj hg) rfl)).trans hskip
        rw [this]; rfl
      have hget : ∀ s, st1.get s = if d = s then some undefV else st.get s := fun s => by rw [e2]; exact get_cons
      obtain ⟨st2, k1, k2, k3, k4, k5⟩ := skip_fold r (st := st1) (want := want) hs
        (by
          rcases hg with ⟨c, hc, hne, hj⟩ | hg
          · exact .inl ⟨c, by rw [hget, if_neg (fun e => hj (by rw [← e]; exact hdl))]; exact hc, hne, hj⟩
          · exact .inr (by simp [hg]))
        (fun s hs => by
          rw [hget]
          split
          · rfl
          · rename_i hne
            rcases List.mem_cons.1 hs with h1 | h1
            · exact (hne h1.symm).elim
            · exact hu s h1)
        (fun s hsl hsn => by
          have hne : d ≠ s := fun e => hsn (by simp [e])
          have := hf s hsl (fun h => hsn (by simp [h]))
          unfold Bw.fresh at this ⊢
          rw [hget, if_neg hne]; exact this)
      refine ⟨st2, by simp only [flat, fold, e1, Option.bind_some]; exact k1, fun s hs => ?_, k3, k4, fun s hs => k5 s (by simp [hs])⟩
      rw [k2 s hs, hget, if_neg (fun e => hs (by rw [← e]; exact hdl))]
    · cases hs
  | .grpS _ _ _ _ _ _ _ _, gj, want, l, sk, sk', st, hs, hg, hu, hf => by simp only [skp] at hs; cases hs
  | .grp j' w' b res' d' l' r, gj, want, l, sk, sk', st, hs, hg, hu, hf => by
    simp only [skp] at hs
    obtain ⟨hc, hs⟩ := bif_some hs
    simp only [Bool.and_eq_true] at hc
    split at hs
    · rename_i sk1 hsk1
      obtain ⟨hc2, hs⟩ := bif_some hs
      simp only [Bool.and_eq_true, Bool.not_eq_true'] at hc2
      obtain ⟨⟨hl, hns⟩, hll⟩ := hc2
      have hdl := memN_iff.1 hl
      have hdn : d' ∉ sk1 := fun h => by rw [memN_iff.2 h] at hns; cases hns
      obtain ⟨st1, k1, k2, k3, k4, k5⟩ := skip_fold b (st := st) (want := w') hsk1 (.inr (memN_iff.1 hc.1)) hu hf
      have hdf := k4 d' hdl hdn
      obtain ⟨st2, e1, e2⟩ : ∃ st2, step ⟨pickOf j' w' res' d' l', some (gj, want), some (gdL (some (gj, want)) ++ (j' :: res' :: d' :: l'), d' :: l')⟩ st1 = some st2 ∧ st2 = st1.upd [(d', some undefV)] [] := by
        refine ⟨_, ?_, rfl⟩
        simp only [step]
        generalize hA : gdL (some (gj, want)) ++ (j' :: res' :: d' :: l') = A
        have hAg : memN A gj = true := memN_iff.2 (by rw [← hA]; simp [gdL])
        have : locG (some (gj, want)) A (d' :: l') (keepSt st1 A).get (pickOf j' w' res' d' l') = some ([(d', some undefV)], []) := by
          have hskip : locSkip (d' :: l') (keepSt st1 A).get (pickOf j' w' res' d' l') = some ([(d', some undefV)], []) := by
            unfold locSkip pickOf
            simp only [dstX, memN, keep_fresh hdf, Nat.beq_refl, Bool.true_or, Bool.and_self, cond_true]
          rcases hg with ⟨c, hc, hne, hj⟩ | hg
          · have hc' : st1.get gj = some ⟨.bool, c⟩ := by rw [k2 gj hj]; exact hc
            exact (locG_not (keep_bool hAg hc') hne).trans hskip
          · exact (locG_undef (keepSt_of (memN_iff.1 hAg) (k3 gj (k5 gj hg)) rfl)).trans hskip
        rw [this]; rfl
      have hget : ∀ s, st2.get s = if d' = s then some undefV else st1.get s := fun s => by rw [e2]; exact get_cons
      obtain ⟨st3, m1, m2, m3, m4, m5⟩ := skip_fold r (st := st2) (want := want) hs
        (by
          rcases hg with ⟨c, hc, hne, hj⟩ | hg
          · exact .inl ⟨c, by rw [hget, if_neg (fun e => hj (by rw [← e]; exact hdl)), k2 gj hj]; exact hc, hne, hj⟩
          · exact .inr (by simp [k5 gj hg]))
        (fun s hs => by
          rw [hget]
          split
          · rfl
          · rename_i hne
            rcases List.mem_cons.1 hs with h1 | h1
            · exact (hne h1.symm).elim
            · exact k3 s h1)
        (fun s hsl hsn => by
          have hne : d' ≠ s := fun e => hsn (by simp [e])
          have := k4 s hsl (fun h => hsn (by simp [h]))
          unfold Bw.fresh at this ⊢
          rw [hget, if_neg hne]; exact this)
      refine ⟨st3, ?_, fun s hs => ?_, m3, m4, fun s hs => m5 s (by simp [k5 s hs])⟩
      · simp only [flat]
        have hfa : ∀ (x y : List Stp) (s : St), fold (x ++ y) s = (fold x s).bind (fold y) := by
          intro x
          induction x with
          | nil => intro y s; rfl
          | cons z x ih =>
            intro y s
            simp only [List.cons_append, fold]
            cases step z s with
            | none => rfl
            | some s' => exact ih y s'
        rw [hfa, k1]
        simp only [Option.bind_some, fold, e1]
        exact m1
      · rw [m2 s hs, hget, if_neg (fun e => hs (by rw [← e]; exact hdl)), k2 s hs]
    · cases hs
theorem fold_append : ∀ (x y : List Stp) (s : St), fold (x ++ y) s = (fold x s).bind (fold y) := by
  intro x
  induction x with
  | nil => intro y s; rfl
  | cons z x ih =>
    intro y s
    simp only [List.cons_append, fold]
    cases step z s with
    | none => rfl
    | some s' => exact ih y s'

theorem freshL_mem {g : Nat → Option SV} : ∀ {l : List Nat}, freshL g l = true → ∀ s ∈ l, fresh g s = true
  | [], _, s, hs => by cases hs
  | k :: r, h, s, hs => by
    simp only [freshL, Bool.and_eq_true] at h
    rcases List.mem_cons.1 hs with rfl | hs
    · exact h.1
    · exact freshL_mem h.2 s hs
/-- the evaluator's region is its steps, one after the other -/
theorem flat_ok : ∀ (xi : XI) {R : Type} (gd : Option (Nat × Bool)) (gl : Option (Nat × List Nat)) {st st1 : St} {K : St → Option R} {r : R}, xiOk gl xi = true →
    (∀ j w, gd = some (j, w) → ∃ l, gl = some (j, l) ∧ st1.get j = some ⟨.bool, w⟩ ∧ j ∉ l) → (gd = none → gl = none) → Eqv st st1 → evI xi st K = some r →
    ∃ st2 st3, fold (flat gd xi) st1 = some st3 ∧ Eqv st2 st3 ∧ K st2 = some r ∧ ∀ j l, gl = some (j, l) → Out l st1 st3
  | .nil, R, gd, gl, st, st1, K, r, ho, hg, hn, he, hK => ⟨st, st1, rfl, he, hK, fun _ _ _ => Out.refl _ _⟩
  | .op o none x, R, gd, gl, st, st1, K, r, ho, hg, hn, he, hK => by
    simp only [xiOk, Bool.and_eq_true] at ho
    have hgl : gl = none := by cases gl <;> simp_all
    subst hgl
    have hgd : gd = none := by
      cases gd with
      | none => rfl
      | some p => obtain ⟨l, e, _⟩ := hg p.1 p.2 rfl; cases e
    subst hgd
    simp only [evI] at hK
    rw [evOp_nat] at hK
    cases hx : evOp st.get (fun us ks => some (us, ks)) o with
    | none => rw [hx] at hK; cases hK
    | some p =>
      obtain ⟨us, ks⟩ := p
      rw [hx] at hK
      obtain ⟨st2, st3, h1, h2, h3, h4⟩ := flat_ok x none none (st1 := st1.upd us ks) ho.2 (fun _ _ e => by cases e) (fun _ => rfl) (he.upd us ks) hK
      refine ⟨st2, st3, ?_, h2, h3, fun _ _ e => by cases e⟩
      simp only [flat, fold, step]
      rw [← show st.get = st1.get from funext he, hx]
      exact h1
  | .op o (some (A, W)) x, R, gd, gl, st, st1, K, r, ho, hg, hn, he, hK => by
    simp only [xiOk, Bool.and_eq_true] at ho
    simp only [evI] at hK
    rw [evOp_nat] at hK
    cases hx : evOp (keepSt st A).get (fun us ks => some (us, ks)) o with
    | none => rw [hx] at hK; cases hK
    | some p =>
      obtain ⟨us, ks⟩ := p
      rw [hx] at hK
      simp only [Option.bind_some] at hK
      obtain ⟨hc, hK⟩ := bif_some hK
      have hrun : locRun A W (keepSt st1 A).get o = some (us, ks ++ hkO o (keepSt st A).get us) := by
        unfold locRun
        rw [← he.keep A, evOp_nat, hx]
        simp only [Option.bind_some, hc, cond_true]
      have L := locRun_ok hrun
      have hloc : locG gd A W (keepSt st1 A).get o = some (us, ks ++ hkO o (keepSt st A).get us) := by
        cases gd with
        | none => exact hrun
        | some p =>
          obtain ⟨j, w⟩ := p
          obtain ⟨l, e, hj, hjl⟩ := hg j w rfl
          subst e
          simp only [Bool.and_eq_true] at ho
          exact (locG_yes (keep_bool ho.1.1 hj)).trans hrun
      obtain ⟨st2, st3, h1, h2, h3, h4⟩ := flat_ok x gd gl (st1 := st1.upd us (ks ++ hkO o (keepSt st A).get us)) ho.2
        (fun j w e => by
          obtain ⟨l, e2, hj, hjl⟩ := hg j w e
          subst e2
          simp only [Bool.and_eq_true] at ho
          exact ⟨l, rfl, ((L.out st1).mono (subN_spec ho.1.2)).bool hjl hj, hjl⟩) hn (he.upd _ _) hK
      refine ⟨st2, st3, ?_, h2, h3, fun j l e => ?_⟩
      · simp only [flat, fold, step, hloc]
        exact h1
      · subst e
        simp only [Bool.and_eq_true] at ho
        exact ((L.out st1).mono (subN_spec ho.1.2)).trans (h4 j l rfl)
  | .grp j want b res d l x, R, gd, gl, st, st1, K, r, ho, hg, hn, he, hK => by
    simp only [xiOk, Bool.and_eq_true, Bool.not_eq_true'] at ho
    obtain ⟨⟨⟨⟨ho1, ho2⟩, ho3⟩, ho4⟩, ho5⟩ := ho
    have hjl : j ∉ l := fun hh => by rw [memN_iff.2 hh] at ho2; cases ho2
    simp only [evI] at hK
    split at hK
    · rename_i c hc
      obtain ⟨c, rfl⟩ : ∃ b : Bool, b = c := ⟨c, rfl⟩
      obtain ⟨hcond, hK⟩ := bif_some hK
      simp only [Bool.and_eq_true, Bool.not_eq_true'] at hcond
      obtain ⟨⟨hfl, hfd⟩, hdl⟩ := hcond
      have hfl' := freshL_mem hfl
      have hst : st.get = st1.get := funext he
      have hdnl : d ∉ l := fun hh => by rw [memN_iff.2 hh] at hdl; cases hdl
      have hc1 : st1.get j = some ⟨.bool, c⟩ := by rw [← hst]; exact hc
      obtain ⟨v, hv, hK⟩ : ∃ v : Bool, grpK want c (evI b (R := Bool) st fun st' => boolAt st' res) = some v ∧ evI x (st.upd ((d, some ⟨.bool, v⟩) :: none2 l) (tags1 l)) K = some r := by
        cases hsub : grpK want c (evI b (R := Bool) st fun st' => boolAt st' res) with
        | none => rw [hsub] at hK; cases hK
        | some v => rw [hsub] at hK; exact ⟨v, rfl, hK⟩
      obtain ⟨st3, hf3, hout, hsel⟩ : ∃ st3, fold (flat (some (j, want)) b) st1 = some st3 ∧ Out l st1 st3 ∧ (bif bbeq c want then st3.get res else some ⟨.bool, !want⟩) = some ⟨.bool, v⟩ := by
        have run : c = want → evI b (R := Bool) st (fun st' => boolAt st' res) = some v → ∃ st3, fold (flat (some (j, want)) b) st1 = some st3 ∧ Out l st1 st3 ∧ (bif bbeq c want then st3.get res else some ⟨.bool, !want⟩) = some ⟨.bool, v⟩ := by
          intro hcw hv2
          subst hcw
          obtain ⟨st2, st3, k1, k2, k3, k4⟩ := flat_ok b (some (j, c)) (some (j, l)) ho3 (fun j' w' e => by injection e with e; injection e with e1 e2; subst e1 e2; exact ⟨l, rfl, hc1, hjl⟩) (fun e => by cases e) he hv2
          refine ⟨st3, k1, k4 j l rfl, ?_⟩
          have : bbeq c c = true := by cases c <;> rfl
          rw [this]
          show st3.get res = _
          rw [← k2 res]
          unfold boolAt at k3
          split at k3
          · rename_i u hu; injection k3 with k3; subst k3; exact hu
          · cases k3
        have skip : c ≠ want → v = !want → ∃ st3, fold (flat (some (j, want)) b) st1 = some st3 ∧ Out l st1 st3 ∧ (bif bbeq c want then st3.get res else some ⟨.bool, !want⟩) = some ⟨.bool, v⟩ := by
          intro hcw hv2
          obtain ⟨sk', hsk⟩ := Option.isSome_iff_exists.1 ho4
          obtain ⟨st3, k1, k2, _⟩ := skip_fold b (want := want) (st := st1) hsk (.inl ⟨c, hc1, hcw, hjl⟩) (fun s hs => by cases hs) (fun s hs _ => by rw [← hst]; exact hfl' s hs)
          refine ⟨st3, k1, fun s hs => .inl (k2 s hs), ?_⟩
          have : bbeq c want = false := by cases c <;> cases want <;> simp_all [bbeq]
          rw [this, hv2]; rfl
        cases want <;> cases c
        · exact run rfl hv
        · injection hv with hv; exact skip (by simp) (by rw [← hv]; rfl)
        · injection hv with hv; exact skip (by simp) (by rw [← hv]; rfl)
        · exact run rfl hv
      obtain ⟨st4, g1, g2, g3⟩ := pick_step (gd := gd) (st0 := st1) hdl (hout.bool hjl hc1) hsel (hout.fresh hdnl (by rw [← hst]; exact hfd)) hout (fun k w e => by
        obtain ⟨l0, e2, hk, hkl⟩ := hg k w e
        subst e2
        simp only [Bool.and_eq_true] at ho1
        exact hout.bool (fun hh => hkl (subN_spec ho1.2 k hh)) hk)
      obtain ⟨st5, st6, m1, m2, m3, m4⟩ := flat_ok x gd gl (st1 := st4) ho5 (fun k w e => by
          obtain ⟨l0, e2, hk, hkl⟩ := hg k w e
          subst e2
          simp only [Bool.and_eq_true] at ho1
          refine ⟨l0, rfl, g3.bool (fun hh => hkl ?_) hk, hkl⟩
          rcases List.mem_cons.1 hh with rfl | hh
          · exact memN_iff.1 ho1.1
          · exact subN_spec ho1.2 k hh) hn ((he.upd _ _).trans g2) hK
      refine ⟨st5, st6, ?_, m2, m3, fun k l0 e => ?_⟩
      · simp only [flat]
        rw [fold_append, hf3]
        simp only [Option.bind_some, fold, g1]
        exact m1
      · subst e
        simp only [Bool.and_eq_true] at ho1
        refine (g3.mono fun y hy => ?_).trans (m4 k l0 rfl)
        rcases List.mem_cons.1 hy with rfl | hy
        · exact memN_iff.1 ho1.1
        · exact subN_spec ho1.2 y hy
    · cases hK
  | .grpS j want b res d l ex x, R, gd, gl, st, st1, K, r, ho, hg, hn, he, hK => by
    simp only [xiOk, Bool.and_eq_true, Bool.not_eq_true'] at ho
    obtain ⟨⟨⟨⟨ho1, ho2⟩, ho3⟩, ho4⟩, ho5⟩ := ho
    have hgl : gl = none := by cases gl with
      | none => rfl
      | some p => cases ho1
    subst hgl
    have hgd : gd = none := by
      cases gd with
      | none => rfl
      | some p => obtain ⟨l, e, _⟩ := hg p.1 p.2 rfl; cases e
    subst hgd
    have hjx : j ∉ l ++ ex := fun hh => by rw [memN_iff.2 hh] at ho2; cases ho2
    have hjl : j ∉ l := fun hh => hjx (List.mem_append.2 (.inl hh))
    simp only [evI] at hK
    split at hK
    · rename_i c hc
      obtain ⟨c, rfl⟩ : ∃ b : Bool, b = c := ⟨c, rfl⟩
      obtain ⟨hcond, hK⟩ := bif_some hK
      rw [grpB_eq] at hK
      simp only [Bool.and_eq_true, Bool.not_eq_true'] at hcond
      obtain ⟨⟨⟨hfl, hfd⟩, hdl⟩, hdx⟩ := hcond
      have hfl' := freshL_mem hfl
      have hst : st.get = st1.get := funext he
      have hdnl : d ∉ l := fun hh => by rw [memN_iff.2 hh] at hdl; cases hdl
      have hdnx : d ∉ l ++ ex := fun hh => by
        rcases List.mem_append.1 hh with hh | hh
        · exact hdnl hh
        · rw [memN_iff.2 hh] at hdx; cases hdx
      have hc1 : st1.get j = some ⟨.bool, c⟩ := by rw [← hst]; exact hc
      obtain ⟨st3, st0, v, hf3, hj3, hfd3, hout, hsel, heq, hK⟩ : ∃ st3 st0 v, fold (flat (some (j, want)) b) st1 = some st3 ∧ st3.get j = some ⟨.bool, c⟩ ∧ fresh st3.get d = true ∧ Out l st0 st3 ∧ (bif bbeq c want then st3.get res else some ⟨.bool, !want⟩) = some ⟨.bool, v⟩ ∧
          ∃ st5, Eqv st5 (st0.upd ((d, some ⟨.bool, v⟩) :: none2 l) (tags1 l)) ∧ evI x st5 K = some r := by
        cases hb : bbeq c want with
        | true =>
          rw [hb] at hK
          have hcw := bbeq_eq hb
          subst hcw
          simp only [cond_true] at hK ⊢
          obtain ⟨st2, st3, k1, k2, k3, k4⟩ := flat_ok b (some (j, c)) (some (j, l ++ ex)) ho3 (fun j' w' e => by injection e with e; injection e with e1 e2; subst e1 e2; exact ⟨l ++ ex, rfl, hc1, hjx⟩) (fun e => by cases e) he hK
          have hout := k4 j (l ++ ex) rfl
          cases hv : boolAt st2 res with
          | none => rw [hv] at k3; cases k3
          | some v =>
            rw [hv] at k3
            refine ⟨st3, st3, v, k1, hout.bool hjx hc1, hout.fresh hdnx (by rw [← hst]; exact hfd), Out.refl l st3, ?_, _, k2.upd _ _, k3⟩
            rw [← k2 res]
            unfold boolAt at hv
            split at hv
            · rename_i u hu; injection hv with hv; subst hv; exact hu
            · cases hv
        | false =>
          rw [hb] at hK
          simp only [cond_false] at hK ⊢
          obtain ⟨sk', hsk⟩ := Option.isSome_iff_exists.1 ho4
          have hcw : c ≠ want := fun e => by subst e; cases c <;> simp [bbeq] at hb
          obtain ⟨st3, k1, k2, _⟩ := skip_fold b (want := want) (st := st1) hsk (.inl ⟨c, hc1, hcw, hjl⟩) (fun s hs => by cases hs) (fun s hs _ => by rw [← hst]; exact hfl' s hs)
          have hout : Out l st1 st3 := fun s hs => .inl (k2 s hs)
          exact ⟨st3, st1, !want, k1, hout.bool hjl hc1, hout.fresh hdnl (by rw [← hst]; exact hfd), hout, rfl, _, he.upd _ _, hK⟩
      obtain ⟨e5, hK⟩ := hK
      obtain ⟨st4, g1, g2, g3⟩ := pick_step (gd := none) (st0 := st0) hdl hj3 hsel hfd3 hout (fun k w e => by cases e)
      obtain ⟨s5, s6, m1, m2, m3, m4⟩ := flat_ok x none none (st1 := st4) ho5 (fun _ _ e => by cases e) (fun _ => rfl) (e5.trans g2) hK
      refine ⟨s5, s6, ?_, m2, m3, fun k l0 e => by cases e⟩
      simp only [flat]
      rw [fold_append, hf3]
      simp only [Option.bind_some, fold, g1]
      exact m1
    · cases hK
end Go.Proofs.Bw
namespace Go.Proofs.Bw
open Go

def bitN (m i : Nat) : Bool := Nat.beq (Nat.land (Nat.shiftRight m i) 1) 1
def bitL (an : List Nat) (j i : Nat) : Bool := bitN (an.getD j 0) i
def chkJ (an : List Nat) (j : Nat) (o : Oper) (t : Stp) : List Stp → Nat → Bool
  | [], _ => true
  | s :: r, i => (bif bitL an j i then o.after.toList.any (fun e => Region.binds .any e && (Nat.beq e.on i || (Nat.blt i e.on && bitL an e.on i))) else indep s t) && chkJ an j o t r (i + 1)
def chk (an : List Nat) (done : List Stp) : List Oper → List Stp → Nat → Bool
  | [], [], _ => true
  | o :: os, t :: ts, j => o.after.toList.all (fun e => !Region.binds .any e || Nat.blt e.on j) && chkJ an j o t done 0 && chk an (done ++ [t]) os ts (j + 1)
  | _, _, _ => false
theorem chkJ_spec {an : List Nat} {j : Nat} {o : Oper} {t : Stp} : ∀ {l : List Stp} {i : Nat}, chkJ an j o t l i = true → ∀ k s, l[k]? = some s →
    (bitL an j (i + k) = true → ∃ e ∈ o.after, Region.binds .any e = true ∧ (e.on = i + k ∨ (i + k < e.on ∧ bitL an e.on (i + k) = true))) ∧ (bitL an j (i + k) = false → indep s t = true)
  | [], _, _, k, s, hk => by simp at hk
  | x :: r, i, h, k, s, hk => by
    simp only [chkJ, Bool.and_eq_true] at h
    rcases k with _ | k
    · simp only [List.getElem?_cons_zero, Option.some.injEq] at hk
      subst hk
      rw [Nat.add_zero]
      refine ⟨fun hb => ?_, fun hb => ?_⟩
      · rw [hb] at h
        obtain ⟨e, he, hc⟩ := List.any_eq_true.1 h.1
        simp only [Bool.and_eq_true, Bool.or_eq_true, Nat.blt_eq] at hc
        exact ⟨e, Array.mem_toList_iff.1 he, hc.1, hc.2.imp beq_iff.1 id⟩
      · rw [hb] at h; exact h.1
    · have := chkJ_spec h.2 k s (by simpa using hk)
      rwa [show i + 1 + k = i + (k + 1) by omega] at this
theorem chk_spec {an : List Nat} : ∀ {os : List Oper} {ts done : List Stp} {j : Nat}, done.length = j → chk an done os ts j = true → os.length = ts.length ∧
    ∀ k o, os[k]? = some o → ∀ t, ts[k]? = some t → (∀ e ∈ o.after, Region.binds .any e = true → e.on < j + k) ∧
      ∀ i s, i < j + k → (done ++ ts)[i]? = some s →
        (bitL an (j + k) i = true → ∃ e ∈ o.after, Region.binds .any e = true ∧ (e.on = i ∨ (i < e.on ∧ bitL an e.on i = true))) ∧ (bitL an (j + k) i = false → indep s t = true)
  | [], [], _, _, _, _ => ⟨rfl, fun k o hk => by simp at hk⟩
  | [], _ :: _, _, _, _, h => by simp [chk] at h
  | _ :: _, [], _, _, _, h => by simp [chk] at h
  | o :: os, t :: ts, done, j, hd, h => by
    simp only [chk, Bool.and_eq_true] at h
    obtain ⟨⟨h1, h2⟩, h3⟩ := h
    obtain ⟨i1, i2⟩ := chk_spec (done := done ++ [t]) (j := j + 1) (by simp [hd]) h3
    refine ⟨by simp [i1], fun k o' hk t' ht => ?_⟩
    rcases k with _ | k
    · simp only [List.getElem?_cons_zero, Option.some.injEq] at hk ht
      subst hk ht
      rw [Nat.add_zero]
      refine ⟨fun e he hb => ?_, fun i s hi hs => ?_⟩
      · have := List.all_eq_true.1 h1 e (Array.mem_toList_iff.2 he)
        simp only [hb, Bool.not_true, Bool.false_or, Nat.blt_eq] at this
        exact this
      · rw [List.getElem?_append_left (by omega)] at hs
        have := chkJ_spec h2 i s hs
        rwa [Nat.zero_add] at this
    · have := i2 k o' (by simpa using hk) t' (by simpa using ht)
      rw [show j + 1 + k = j + (k + 1) by omega] at this
      refine ⟨this.1, fun i s hi hs => this.2 i s hi ?_⟩
      rw [List.append_assoc]
      exact hs

def stp0 : Stp := ⟨.coeS 0 .unit, none, none⟩
structure RegM (P : Program) (ops : Array Oper) (L : List Nat) (n : Nat) (xi : XI) : Prop where
  len : (flat none xi).length = ops.size
  ok : xiOk none xi = true
  m : ∀ k s, (flat none xi)[k]? = some s → Matched P ops L n k s
structure RegDM (P : Program) (ops : Array Oper) (L : List Nat) (n : Nat) (xi : XI) : Prop extends RegM P ops L n xi where
  mixed : P.follows .mixedOrders = true
  chk : ∃ an, chk an [] ops.toList (flat none xi) 0 = true

section
variable {P : Program} {n : Nat} {Q : Exit → Act → World → Prop} {σ : Sg} {h : Hp} {st : St} {a : Act} {w : World} {fx : Fx}
theorem SRel.eqv {st2 : St} {tm : Array Value} (S : SRel σ h st tm w) (he : Eqv st2 st) : SRel σ (hpart (fun k => (st2.get k).isSome) h) st2 tm w :=
  S.sub (fun s v hs => by rw [← he s]; exact hs) fun s v k q hs hl => by
    obtain ⟨k', r, e, u, hu, _⟩ := S.look s v _ (by rw [← he s]; exact hs) hl
    injection e with e _
    subst e
    exact ⟨u, by rw [he]; exact hu⟩
theorem Went.eqv {st2 st3 : St} {a' : Act} {w' : World} (he : Eqv st2 st3) (k : Went w σ h fx n st3 a' w') : Went w σ h fx n st2 a' w' := by
  obtain ⟨σ', h', E, S, e1, e2⟩ := k
  exact ⟨σ', _, E.part _, S.eqv he, e1, e2⟩
theorem reg_ok {ops : Array Oper} {xi : XI} {R : Type} {K : St → Option R} {r : R} {id : Nat} (M : RegM P ops fx.L n xi) (S : SRel σ h st a.tmps w) (hn : a.tmps.size = n) (F : Fixed fx a) (hK : evI xi st K = some r)
    (hQ : ∀ a' w' st2, K st2 = some r → Went w σ h fx n st2 a' w' → Q .normal a' w') : (Code.region id ops false).wp P Q a w := by
  obtain ⟨st2, st3, h1, h2, h3, _⟩ := flat_ok xi none none (st1 := st) M.ok (fun _ _ e => by cases e) (fun _ => rfl) (fun _ => rfl) hK
  refine wp_region ?_
  have := fold_ok (Q := Q) (flat none xi) 0 (fun k s hk => by rw [Nat.zero_add]; exact M.m k s hk) S hn F h1 fun a' w' k => hQ a' w' st2 h3 (k.eqv h2)
  rw [M.len] at this
  rwa [List.range_eq_range']
theorem regD_ok {ops : Array Oper} {xi : XI} {R : Type} {K : St → Option R} {r : R} {id : Nat} (M : RegDM P ops fx.L n xi) (S : SRel σ h st a.tmps w) (hn : a.tmps.size = n) (F : Fixed fx a) (hK : evI xi st K = some r)
    (hQ : ∀ a' w' st2, K st2 = some r → Went w σ h fx n st2 a' w' → Q .normal a' w') : (Code.region id ops true).wp P Q a w := by
  obtain ⟨st2, st3, h1, h2, h3, _⟩ := flat_ok xi none none (st1 := st) M.ok (fun _ _ e => by cases e) (fun _ => rfl) (fun _ => rfl) hK
  refine wp_region_any M.mixed ?_
  obtain ⟨an, hc⟩ := M.chk
  obtain ⟨_, hs⟩ := chk_spec (j := 0) rfl hc
  let sa : Nat → Stp := fun k => ((flat none xi)[k]?).getD stp0
  have hsa : ∀ k, k < ops.size → (flat none xi)[k]? = some (sa k) := fun k hk => by
    have : k < (flat none xi).length := by rw [M.len]; exact hk
    show _ = some (((flat none xi)[k]?).getD stp0)
    rw [List.getElem?_eq_getElem this]; rfl
  have hE : Ext w σ h { w with drawn := w.drawn + 1 } σ h := Ext.same σ h rfl rfl rfl rfl
  have S' : SRel σ h st a.tmps { w with drawn := w.drawn + 1 } := ⟨S.inv.same rfl, S.vals, S.typ, S.look, S.own⟩
  have hto : ∀ j o, ops[j]? = some o → ops.toList[j]? = some o := fun j o ho => by rw [Array.getElem?_toList]; exact ho
  refine any_ok (sa := sa) (an := bitL an) (st := st) (st' := st3) (fun k hk => M.m k (sa k) (hsa k hk)) (fun j o ho e he hb => ?_) (fun j o i ho hi hb => ?_) (fun j i hi hj hb => ?_) ops.size (List.range ops.size) _ (by simp) List.pairwise_lt_range (fun i hi => List.mem_range.1 hi) (by simp) ?_ ?_ S' hn F ?_ ?_
  · have hj := (Array.getElem?_eq_some_iff.1 ho).1
    have := (hs j o (hto j o ho) (sa j) (hsa j hj)).1 e he hb
    omega
  · have hj := (Array.getElem?_eq_some_iff.1 ho).1
    have := (hs j o (hto j o ho) (sa j) (hsa j hj)).2 i (sa i) (by omega) (by rw [List.nil_append]; exact hsa i (by omega))
    rw [Nat.zero_add] at this
    exact this.1 hb
  · have ho : ops[j]? = some ops[j] := Array.getElem?_eq_getElem hj
    have := (hs j _ (hto j _ ho) (sa j) (hsa j hj)).2 i (sa i) (by omega) (by rw [List.nil_append]; exact hsa i (by omega))
    rw [Nat.zero_add] at this
    exact this.2 hb
  · intro i hi
    simp [Array.getD_eq_getD_getElem?, hi]
  · intro m i hm hmr
    exact (hmr (List.mem_range.2 hm)).elim
  · have : (List.range ops.size).map sa = flat none xi := by
      apply List.ext_getElem?
      intro k
      rw [List.getElem?_map]
      by_cases hk : k < ops.size
      · rw [List.getElem?_range hk, hsa k hk]; rfl
      · rw [List.getElem?_eq_none (by simpa using hk), List.getElem?_eq_none (by rw [M.len]; omega)]; rfl
    rw [this]; exact h1
  · intro a' w' st'' he k
    exact hQ a' w' st2 h3 (Went.eqv (h2.trans he) (Went.trans hE k))
end
end Go.Proofs.Bw
namespace Go.Proofs.Bw
open Go

section
variable {σ : Sg} {h : Hp}
theorem coe_beq {a b : Ty} {m : Bool} {x : a.den} {y : b.den} {cs : List Value} {t : Tag} (e : (if h : a.beq b = true then some (Ty.cast h x) else none) = some y) (hr : Rel σ h a m x cs t) : Rel σ h b m y cs t := by
  split at e
  · rename_i hb
    have := Ty.eq_of_beq hb
    subst this
    injection e with e
    subst e
    exact hr
  · cases e
theorem coe_any {a : Ty} {m : Bool} {x : a.den} {y : Ty.any.den} {cs : List Value} {t : Tag} (e : (bif a.agg then none else some ()) = some y) (hr : Rel σ h a m x cs t) : Rel σ h .any m y cs t := by
  have hag : a.agg = false := by
    cases ha : a.agg with
    | false => rfl
    | true => rw [ha] at e; cases e
  have key : ∀ {c : List Value}, Rel σ h a false x c t → ∃ v, c = [v] := fun {c} k => by
    have hl := Rel.length k
    have : a.size = 1 := by cases a <;> first | rfl | cases hag
    rw [this] at hl
    match c, hl with
    | [v], _ => exact ⟨v, rfl⟩
  have : Rel σ h a false x cs t := by
    cases a <;> first | exact hr | cases hag | skip
    all_goals cases x <;> exact hr
  obtain ⟨v, rfl⟩ := key this
  simp only [Rel]
  exact ⟨v, rfl⟩
theorem coe_agg : ∀ {a b : Ty} {m : Bool} {x : a.den} {y : b.den}, coe m a b x = some y → b.agg = a.agg := by
  intro a b m x y e
  have hbeq : ∀ {x : a.den} {y : b.den}, (if h : a.beq b = true then some (Ty.cast h x) else none) = some y → b.agg = a.agg := fun {x y} e => by
    split at e
    · rename_i hb; rw [Ty.eq_of_beq hb]
    · cases e
  cases a with
  | nil k => rcases k with _ | _ | k <;> cases b <;> first | rfl | exact hbeq e | cases e
  | _ => cases b <;> first | rfl | exact hbeq e | cases e
theorem SlOk.le {z y : Nm} {ad : Option Addr} {n c : Nat} (hz : nmLe z y = true) (k : SlOk z ad n c) : SlOk y ad n c := by
  obtain ⟨k1, k2, k3, k4⟩ := k
  refine ⟨k1, k2, k3, ?_⟩
  cases z <;> cases y <;> first | trivial | exact k4 | (simp [nmLe] at hz)
theorem coe_rel : ∀ {a b : Ty} {m : Bool} {x : a.den} {y : b.den} {cs : List Value} {t : Tag}, coe m a b x = some y → Rel σ h a m x cs t → Rel σ h b m y cs t := by
  intro a
  induction a with
  | pair p q ihp ihq =>
    intro b m x y cs t e hr
    cases b <;> first | exact coe_beq e hr | exact coe_any e hr | skip
    rename_i c d
    have e : (match coe false p c x.1, coe m q d x.2 with
      | some y, some z => some ((y, z) : c.den × d.den)
      | _, _ => none) = some y := e
    cases hu : coe false p c x.1 with
    | none => rw [hu] at e; cases e
    | some u =>
      cases hv : coe m q d x.2 with
      | none => rw [hu, hv] at e; cases e
      | some v =>
        rw [hu, hv] at e
        injection e with e
        subst e
        cases m with
        | false =>
          simp only [Rel] at hr ⊢
          obtain ⟨c1, c2, e1, h1, h2⟩ := hr
          exact ⟨c1, c2, e1, ihp hu h1, ihq hv h2⟩
        | true =>
          simp only [Rel] at hr ⊢
          obtain ⟨w, c2, e1, ⟨c1, hw, h1⟩, h2⟩ := hr
          exact ⟨w, c2, e1, ⟨c1, by rw [coe_agg hu]; exact hw, ihp hu h1⟩, ihq hv h2⟩
  | box p ih =>
    intro b m x y cs t e hr
    cases b <;> first | exact coe_beq e hr | exact coe_any e hr | skip
    · rename_i q
      have e : coe false p q x = some y := e
      simp only [Rel] at hr ⊢
      obtain ⟨bk, ch, e1, e2, e3⟩ := hr
      exact ⟨bk, ch, e1, e2, ih e e3⟩
    · rename_i q
      have e : (match coe false p q x with
        | some y => some (some y)
        | none => none) = some y := e
      cases hz : coe false p q x with
      | none => rw [hz] at e; cases e
      | some z =>
        rw [hz] at e
        injection e with e
        subst e
        simp only [Rel] at hr ⊢
        obtain ⟨bk, ch, e1, e2, e3⟩ := hr
        exact ⟨bk, ch, e1, e2, ih hz e3⟩
  | tup p ih =>
    intro b m x y cs t e hr
    cases b <;> first | exact coe_beq e hr | exact coe_any e hr | skip
    rename_i q
    have e : coe true p q x = some y := e
    simp only [Rel] at hr ⊢
    obtain ⟨vs, e1, e2⟩ := hr
    exact ⟨vs, e1, ih e e2⟩
  | slB z c p ih =>
    intro b m x y cs t e hr
    cases b <;> first | exact coe_beq e hr | exact coe_any e hr | skip
    rename_i z' d q
    have e : (if h : p.beq q = true then (bif nmLe z z' && (c || !d) then some ((Ty.eq_of_beq h ▸ x : List q.den)) else none) else none) = some y := e
    split at e
    · rename_i hb
      obtain ⟨hc, e⟩ := bif_some e
      have := Ty.eq_of_beq hb
      subst this
      injection e with e
      subst e
      simp only [Bool.and_eq_true] at hc
      simp only [Rel] at hr ⊢
      obtain ⟨a, len, cap, h1, h2, h3, h4, h5⟩ := hr
      exact ⟨a, len, cap, h1, h2.le hc.1, h3, fun hd => h4 (by cases c <;> simp_all), h5⟩
    · cases e
  | slX z p ih =>
    intro b m x y cs t e hr
    cases b <;> first | exact coe_beq e hr | exact coe_any e hr | skip
    rename_i z' q
    have e : (if h : p.beq q = true then (bif nmLe z z' then some ((Ty.eq_of_beq h ▸ x : List q.den)) else none) else none) = some y := e
    split at e
    · rename_i hb
      obtain ⟨hc, e⟩ := bif_some e
      have := Ty.eq_of_beq hb
      subst this
      injection e with e
      subst e
      simp only [Rel] at hr ⊢
      obtain ⟨a, len, cap, h1, h2, h3⟩ := hr
      exact ⟨a, len, cap, h1, h2.le hc, h3⟩
    · cases e
  | cref p ih =>
    intro b m x y cs t e hr
    cases b <;> first | exact coe_beq e hr | exact coe_any e hr | skip
    rename_i q
    have e : (if h : p.beq q = true then some (some (Ty.cast h x)) else none) = some y := e
    split at e
    · rename_i hb
      have := Ty.eq_of_beq hb
      subst this
      injection e with e
      subst e
      simp only [Rel] at hr ⊢
      exact hr
    · cases e
  | nil k =>
    intro b m x y cs t e hr
    rcases k with _ | _ | k
    · cases b <;> first | exact coe_beq e hr | exact coe_any e hr | skip
      · rename_i z' d q
        have hr : cs = [.slice none 0 0] := hr
        subst hr
        have hz : z' ≠ .S ∧ y = ([] : List q.den) := by cases z' <;> first | (injection e with e; exact ⟨by simp, e.symm⟩) | cases e
        obtain ⟨hz, rfl⟩ := hz
        simp only [Rel]
        refine ⟨none, 0, 0, rfl, ⟨by simp, by simp, by simp [maxLen], ?_⟩, rfl, fun _ => rfl, [], rfl, by simp⟩
        cases z' <;> first | trivial | simp | exact (hz rfl).elim
      · rename_i z' q
        have hr : cs = [.slice none 0 0] := hr
        subst hr
        have hz : z' ≠ .S ∧ y = ([] : List q.den) := by cases z' <;> first | (injection e with e; exact ⟨by simp, e.symm⟩) | cases e
        obtain ⟨hz, rfl⟩ := hz
        simp only [Rel]
        refine ⟨none, 0, 0, rfl, ⟨by simp, by simp, by simp [maxLen], ?_⟩, rfl, .inl rfl⟩
        cases z' <;> first | trivial | simp | exact (hz rfl).elim
    · cases b <;> first | exact coe_beq e hr | exact coe_any e hr | skip
      all_goals
        rename_i q
        have hr : cs = [.pointer none] := hr
        subst hr
        have : y = (none : Option q.den) := by injection e with e; exact e.symm
        subst this
        simp only [Rel]
    · cases b <;> first | exact coe_beq e hr | exact coe_any e hr
  | _ =>
    intro b m x y cs t e hr
    cases b <;> first | exact coe_beq e hr | exact coe_any e hr
end
theorem np_beq {a b : Ty} {x : a.den} {y : b.den} (hp : a.pure = false) (e : (if h : a.beq b = true then some (Ty.cast h x) else none) = some y) : b.pure = false := by
  split at e
  · rename_i hb; rw [← Ty.eq_of_beq hb]; exact hp
  · cases e
theorem coe_np : ∀ {a b : Ty} {m : Bool} {x : a.den} {y : b.den}, coe m a b x = some y → a.pure = false → b.pure = false := by
  intro a
  induction a with
  | pair p q ihp ihq =>
    intro b m x y e hp
    cases b <;> first | exact np_beq hp e | rfl | skip
    rename_i c d
    have e : (match coe false p c x.1, coe m q d x.2 with
      | some y, some z => some ((y, z) : c.den × d.den)
      | _, _ => none) = some y := e
    cases hu : coe false p c x.1 with
    | none => rw [hu] at e; cases e
    | some u =>
      cases hv : coe m q d x.2 with
      | none => rw [hu, hv] at e; cases e
      | some v =>
        simp only [Ty.pure, Bool.and_eq_false_iff] at hp ⊢
        exact hp.imp (ihp hu) (ihq hv)
  | slB z c p ih =>
    intro b m x y e hp
    cases b <;> first | exact np_beq hp e | rfl | skip
    rename_i z' d q
    have e : (if h : p.beq q = true then (bif nmLe z z' && (c || !d) then some ((Ty.eq_of_beq h ▸ x : List q.den)) else none) else none) = some y := e
    split at e
    · rename_i hb
      have := Ty.eq_of_beq hb
      subst this
      exact hp
    · cases e
  | cref p ih =>
    intro b m x y e hp
    cases b <;> first | exact np_beq hp e | rfl | skip
    rename_i q
    have e : (if h : p.beq q = true then some (some (Ty.cast h x)) else none) = some y := e
    split at e
    · rename_i hb
      have := Ty.eq_of_beq hb
      subst this
      exact hp
    · cases e
  | nil k =>
    intro b m x y e hp
    rcases k with _ | _ | k
    · cases hp
    · cases hp
    · cases b <;> first | exact np_beq hp e | rfl
  | _ =>
    intro b m x y e hp
    first
      | (cases b <;> first | rfl | exact np_beq hp e)
      | cases hp

/-- a slot's value as one of a wider type -/
theorem SRel.coe {σ : Sg} {h : Hp} {st : St} {tm : Array Value} {w : World} (S : SRel σ h st tm w) {s : Nat} {v : SV} {T : Ty} {x : T.den} (hs : st.get s = some v) (hv : v.T.closed = true) (hT : T.closed = true) (hc : Bw.coe false v.T T v.x = some x) :
    SRel σ h ((s, some ⟨T, x⟩) :: st) tm w := by
  have hown : ∀ k, Owns st k → Owns ((s, some ⟨T, x⟩) :: st) k := by
    rintro k ⟨u, h1, h2, h3⟩
    by_cases e : s = k
    · subst e
      rw [hs] at h1
      injection h1 with h1
      subst h1
      exact ⟨⟨T, x⟩, by rw [get_cons, if_pos rfl], coe_np hc h2, hT⟩
    · exact ⟨u, by rw [get_cons, if_neg e]; exact h1, h2, h3⟩
  refine ⟨S.inv, fun k u hk => ?_, fun k u hk => ?_, fun k u t hk ht => ?_, fun b blk hb => ?_⟩
  · rw [get_cons] at hk
    split at hk
    · rename_i e
      subst e
      injection hk with hk
      subst hk
      obtain ⟨h1, c, hw, hr⟩ := S.vals s v hs
      exact ⟨h1, c, by rw [coe_agg hc]; exact hw, coe_rel hc hr⟩
    · exact S.vals k u hk
  · rw [get_cons] at hk
    split at hk
    · injection hk with hk; subst hk; exact closed_okTop hT
    · exact S.typ k u hk
  · rw [get_cons] at hk
    split at hk
    · injection hk with hk
      subst hk
      rw [closed_looks hT] at ht; cases ht
    · obtain ⟨j, q, e, ho⟩ := S.look k u t hk ht
      exact ⟨j, q, e, hown j ho⟩
  · obtain ⟨j, q, e, ho⟩ := S.own b blk hb
    exact ⟨j, q, e, hown j ho⟩
theorem SRel.retype1 {σ : Sg} {h : Hp} {st : St} {tm : Array Value} {w : World} (S : SRel σ h st tm w) {s : Nat} {v : SV} {T : Ty} {x : T.den} (hs : st.get s = some v) (hv : v.T.closed = true) (hT : T.closed = true) (hnp : v.T.pure = false → T.pure = false) (hnew : VRel σ h T x (tm.getD s undef) [s]) :
    SRel σ h ((s, some ⟨T, x⟩) :: st) tm w := by
  have hown : ∀ k, Owns st k → Owns ((s, some ⟨T, x⟩) :: st) k := by
    rintro k ⟨u, h1, h2, h3⟩
    by_cases e : s = k
    · subst e
      rw [hs] at h1
      injection h1 with h1
      subst h1
      exact ⟨⟨T, x⟩, by rw [get_cons, if_pos rfl], hnp h2, hT⟩
    · exact ⟨u, by rw [get_cons, if_neg e]; exact h1, h2, h3⟩
  refine ⟨S.inv, fun k u hk => ?_, fun k u hk => ?_, fun k u t hk ht => ?_, fun b blk hb => ?_⟩
  · rw [get_cons] at hk
    split at hk
    · rename_i e
      subst e
      injection hk with hk
      subst hk
      exact ⟨(S.vals s v hs).1, hnew⟩
    · exact S.vals k u hk
  · rw [get_cons] at hk
    split at hk
    · injection hk with hk; subst hk; exact closed_okTop hT
    · exact S.typ k u hk
  · rw [get_cons] at hk
    split at hk
    · injection hk with hk
      subst hk
      rw [closed_looks hT] at ht; cases ht
    · obtain ⟨j, q, e, ho⟩ := S.look k u t hk ht
      exact ⟨j, q, e, hown j ho⟩
  · obtain ⟨j, q, e, ho⟩ := S.own b blk hb
    exact ⟨j, q, e, hown j ho⟩

/-- is a pointer nil? in either case the state says so -/
theorem spN_ok {R : Type} {σ : Sg} {h : Hp} : ∀ {T : Ty} {x : T.den} {p : Tag} {K : SV → Option R} {r : R} {cs : List Value} {t : Tag}, spN T x p K = some r → T.closed = true → Rel σ h T false x cs t →
    ∃ w, K w = some r ∧ w.T.closed = true ∧ w.T.agg = T.agg ∧ Rel σ h w.T false w.x cs t := by
  intro T
  induction T with
  | opt e ih =>
    intro x p K r cs t hK hcl hr
    cases p with
    | nil =>
      obtain ⟨y, rfl⟩ : ∃ y : Option e.den, y = x := ⟨x, rfl⟩
      cases y with
      | none => exact ⟨⟨.nil 1, ()⟩, hK, rfl, rfl, by simp only [Rel] at hr ⊢; exact hr⟩
      | some y => exact ⟨⟨.box e, y⟩, hK, hcl, rfl, by simpa only [Rel] using hr⟩
    | cons k p => exact ⟨_, hK, hcl, rfl, hr⟩
  | box e ih =>
    intro x p K r cs t hK hcl hr
    cases p with
    | nil => exact ⟨_, hK, hcl, rfl, hr⟩
    | cons k p =>
      cases k with
      | zero =>
        simp only [Rel] at hr
        obtain ⟨b, ch, e1, e2, e3⟩ := hr
        obtain ⟨w, w1, w2, w4, w5⟩ := ih (x := x) (K := fun w => K ⟨.box w.T, w.x⟩) hK hcl e3
        exact ⟨⟨.box w.T, w.x⟩, w1, w2, rfl, by simp only [Rel]; exact ⟨b, ch, e1, e2, w5⟩⟩
      | succ k => exact ⟨_, hK, hcl, rfl, hr⟩
  | pair a b iha ihb =>
    intro x p K r cs t hK hcl hr
    simp only [Ty.closed, Bool.and_eq_true] at hcl
    cases p with
    | nil => exact ⟨_, hK, by simp only [Ty.closed, hcl.1, hcl.2, Bool.and_true], rfl, hr⟩
    | cons k p =>
      match k, hK with
      | 0, hK => exact ⟨_, hK, by simp only [Ty.closed, hcl.1, hcl.2, Bool.and_true], rfl, hr⟩
      | 1, hK =>
        simp only [Rel] at hr
        obtain ⟨c, d, e1, e2, e3⟩ := hr
        obtain ⟨w, w1, w2, w4, w5⟩ := iha (x := x.1) (K := fun w => K ⟨.pair w.T b, (w.x, x.2)⟩) hK hcl.1 e2
        exact ⟨⟨.pair w.T b, (w.x, x.2)⟩, w1, by simp only [Ty.closed, w2, hcl.2, Bool.and_true], rfl, by simp only [Rel]; exact ⟨c, d, e1, w5, e3⟩⟩
      | 2, hK =>
        simp only [Rel] at hr
        obtain ⟨c, d, e1, e2, e3⟩ := hr
        obtain ⟨w, w1, w2, w4, w5⟩ := ihb (x := x.2) (K := fun w => K ⟨.pair a w.T, (x.1, w.x)⟩) hK hcl.2 e3
        exact ⟨⟨.pair a w.T, (x.1, w.x)⟩, w1, by simp only [Ty.closed, w2, hcl.1, Bool.true_and], rfl, by simp only [Rel]; exact ⟨c, d, e1, e2, w5⟩⟩
      | k + 3, hK => exact ⟨_, hK, by simp only [Ty.closed, hcl.1, hcl.2, Bool.and_true], rfl, hr⟩
  | _ =>
    intro x p K r cs t hK hcl hr
    exact ⟨_, by simpa only [spN] using hK, hcl, rfl, hr⟩
/-- is a pointer nil? in either case the state says so -/
theorem spK_ok {R : Type} {σ : Sg} {h : Hp} : ∀ {T : Ty} {x : T.den} {p : Tag} {K : SV → Option R} {r : R} {cs : List Value} {t : Tag}, spK T x p K = some r → T.closed = true → Rel σ h T false x cs t →
    ∃ w, K w = some r ∧ w.T.closed = true ∧ w.T.pure = T.pure ∧ w.T.agg = T.agg ∧ Rel σ h w.T false w.x cs t := by
  intro T
  induction T with
  | opt e ih =>
    intro x p K r cs t hK hcl hr
    cases p with
    | nil =>
      obtain ⟨y, rfl⟩ : ∃ y : Option e.den, y = x := ⟨x, rfl⟩
      cases y with
      | none => exact ⟨_, hK, hcl, rfl, rfl, hr⟩
      | some y => exact ⟨⟨.box e, y⟩, hK, hcl, rfl, rfl, by simpa only [Rel] using hr⟩
    | cons k p => exact ⟨_, hK, hcl, rfl, rfl, hr⟩
  | box e ih =>
    intro x p K r cs t hK hcl hr
    cases p with
    | nil => exact ⟨_, hK, hcl, rfl, rfl, hr⟩
    | cons k p =>
      cases k with
      | zero =>
        simp only [Rel] at hr
        obtain ⟨b, ch, e1, e2, e3⟩ := hr
        obtain ⟨w, w1, w2, w4, w5⟩ := spN_ok (T := e) (x := x) (p := p) (K := fun w => K ⟨.box w.T, w.x⟩) hK hcl e3
        exact ⟨⟨.box w.T, w.x⟩, w1, w2, rfl, rfl, by simp only [Rel]; exact ⟨b, ch, e1, e2, w5⟩⟩
      | succ k => exact ⟨_, hK, hcl, rfl, rfl, hr⟩
  | pair a b iha ihb =>
    intro x p K r cs t hK hcl hr
    simp only [Ty.closed, Bool.and_eq_true] at hcl
    cases p with
    | nil => exact ⟨_, hK, by simp only [Ty.closed, hcl.1, hcl.2, Bool.and_true], rfl, rfl, hr⟩
    | cons k p =>
      match k, hK with
      | 0, hK => exact ⟨_, hK, by simp only [Ty.closed, hcl.1, hcl.2, Bool.and_true], rfl, rfl, hr⟩
      | 1, hK =>
        simp only [Rel] at hr
        obtain ⟨c, d, e1, e2, e3⟩ := hr
        obtain ⟨w, w1, w2, w3, w4, w5⟩ := iha (x := x.1) (K := fun w => K ⟨.pair w.T b, (w.x, x.2)⟩) hK hcl.1 e2
        exact ⟨⟨.pair w.T b, (w.x, x.2)⟩, w1, by simp only [Ty.closed, w2, hcl.2, Bool.and_true], by simp only [Ty.pure, w3], rfl, by simp only [Rel]; exact ⟨c, d, e1, w5, e3⟩⟩
      | 2, hK =>
        simp only [Rel] at hr
        obtain ⟨c, d, e1, e2, e3⟩ := hr
        obtain ⟨w, w1, w2, w3, w4, w5⟩ := ihb (x := x.2) (K := fun w => K ⟨.pair a w.T, (x.1, w.x)⟩) hK hcl.2 e3
        exact ⟨⟨.pair a w.T, (x.1, w.x)⟩, w1, by simp only [Ty.closed, w2, hcl.1, Bool.true_and], by simp only [Ty.pure, w3], rfl, by simp only [Rel]; exact ⟨c, d, e1, e2, w5⟩⟩
      | k + 3, hK => exact ⟨_, hK, by simp only [Ty.closed, hcl.1, hcl.2, Bool.and_true], rfl, rfl, hr⟩
  | _ =>
    intro x p K r cs t hK hcl hr
    exact ⟨_, by simpa only [spK] using hK, hcl, rfl, rfl, hr⟩
end Go.Proofs.Bw
namespace Go.Proofs.Bw
open Go

def CodeM (P : Program) (L : List Nat) (n : Nat) : XC → Code → Prop
  | .skip, .skip => True
  | .reg xi, .region _ ops false => RegM P ops L n xi
  | .regD xi, .region _ ops true => RegDM P ops L n xi
  | .seq a b, .seq c d => CodeM P L n a c ∧ CodeM P L n b d
  | .cond o a b, .cond x c d => opdOk o x = true ∧ CodeM P L n a c ∧ CodeM P L n b d
  | .keep _ a, c => CodeM P L n a c
  | .pre _ a, c => CodeM P L n a c
  | .aft a _, c => CodeM P L n a c
  | .block i a, .block j c => i = j ∧ i < 1000000 ∧ CodeM P L n a c
  | .loop _ _ a, .loop c => CodeM P L n a c
  | .exit i, .exit j => i = j ∧ i < 1000000
  | .ret, .ret => True
  | .skip, .label _ => True
  | .scopeS a, .scope c => CodeM P L n a c
  | .scope l a r, .scope c => CodeM P L n a c ∧ ∃ b, findLabel c l = some b ∧ CodeM P L n r b
  | .goto l, .goto m => l = m
  | .drop a, c => CodeM P L n a c
  | .dead, _ => True
  | _, _ => False

section
variable {P : Program} {n : Nat} {R : Type} {fx : Fx}
theorem wp_loop_fuel {c : Code} {Q : Exit → Act → World → Prop} (I : Nat → Act → World → Prop) (h0 : ∀ a w, ¬ I 0 a w) (round : ∀ k a w, I (k + 1) a w → c.wp P (Exit.then (I k) Q) a w) {m : Nat} {a : Act} {w : World} (hI : I m a w) : (Code.loop c).wp P Q a w := by
  intro b k cs
  have key : ∀ n a w, I n a w → ∃ e a' w', Q e a' w' ∧ Arrives P (lone (b.at a (.code c :: .inLoop c :: k)) cs w) b k cs e a' w' := by
    intro n
    induction n with
    | zero => intro a w hI; exact (h0 a w hI).elim
    | succ n ih =>
      intro a w hI
      obtain ⟨e, a₁, w₁, hq, harr⟩ := round n a w hI b (.inLoop c :: k) cs
      cases e with
      | normal =>
        obtain ⟨e₂, a₂, w₂, hq₂, harr₂⟩ := ih a₁ w₁ hq
        exact ⟨e₂, a₂, w₂, hq₂, .of_steps (Steps.trans harr (.one step_inLoop)) harr₂⟩
      | exit id => exact ⟨_, a₁, w₁, hq, .pass (x := .inLoop c) rfl (fun _ _ => .inl (by simp)) harr⟩
      | goto l => exact ⟨_, a₁, w₁, hq, .pass (x := .inLoop c) rfl (fun _ _ => .inl (by simp)) harr⟩
      | ret => exact ⟨_, a₁, w₁, hq, .pass (x := .inLoop c) rfl (fun _ _ => .inl (by simp)) harr⟩
      | panic ch => exact ⟨_, a₁, w₁, hq, .pass (x := .inLoop c) rfl (fun _ _ => .inl (by simp)) harr⟩
      | outgrown => exact ⟨_, a₁, w₁, hq, .pass (x := .inLoop c) rfl (fun _ _ => .inl (by simp)) harr⟩
  obtain ⟨e, a', w', hq, harr⟩ := key _ a w hI
  exact ⟨e, a', w', hq, .of_steps (.one step_loop) harr⟩

/-- what is known where code ends -/
def Ends (w : World) (σ : Sg) (h : Hp) (fx : Fx) (n : Nat) (E : Ks R) (K : St → Option R) (r : R) : Exit → Act → World → Prop
  | .normal, a', w' => ∃ st', K st' = some r ∧ Went w σ h fx n st' a' w'
  | .exit id, a', w' => id < 1000000 ∧ ∃ st', exitK E.exits id st' = some r ∧ Went w σ h fx n st' a' w'
  | .goto l, a', w' => ∃ st', exitK E.exits (gkey l) st' = some r ∧ Went w σ h fx n st' a' w'
  | .ret, a', w' => ∃ st', E.ret st' = some r ∧ Went w σ h fx n st' a' w'
  | _, _, _ => False
theorem Ends.trans {w w1 : World} {σ σ1 : Sg} {h h1 : Hp} {E : Ks R} {K : St → Option R} {r : R} {e : Exit} {a' : Act} {w' : World} (x : Ext w σ h w1 σ1 h1) (k : Ends w1 σ1 h1 fx n E K r e a' w') : Ends w σ h fx n E K r e a' w' := by
  cases e <;> first | exact k.elim | exact let ⟨st', h1, h2⟩ := k; ⟨st', h1, Went.trans x h2⟩ | exact let ⟨hb, st', h1, h2⟩ := k; ⟨hb, st', h1, Went.trans x h2⟩
theorem noG_none {l : List (Nat × (St → Option R))} (h : noG l = true) {k : Nat} (hk : 1000000 ≤ k) {st : St} : exitK l k st = none := by
  induction l with
  | nil => rfl
  | cons x l ih =>
    obtain ⟨i, f⟩ := x
    simp only [noG, Bool.and_eq_true, Nat.blt_eq] at h
    simp only [exitK]
    rw [nat_beq_false (by omega)]
    exact ih h.2
theorem exitK_drop {E : Ks R} {k : Nat} {st : St} {r : R} (h : exitK (dropE E).exits k st = some r) : exitK E.exits k st = some r := by
  obtain ⟨re, ex⟩ := E
  cases ex with
  | nil => exact h
  | cons x l =>
    obtain ⟨i, f⟩ := x
    simp only [dropE, exitK] at h ⊢
    cases hb : Nat.beq i k with
    | true => rw [hb] at h; cases h
    | false => rw [hb] at h; exact h

theorem both_some {R : Type} {x y : Option R} {r : R} (h : both x y = some r) : x = some r ∧ y = some r := by
  unfold both at h
  split at h
  · rename_i e; exact ⟨h, by rw [← e]; exact h⟩
  · cases h
theorem gh_ok {w : World} {σ : Sg} {h : Hp} : ∀ (gs : List Gh) {st : St} {K : St → Option R} {r : R} {a : Act} {w' : World}, ghK gs st K = some r → Went w σ h fx n st a w' → ∃ st', K st' = some r ∧ Went w σ h fx n st' a w'
  | [], st, K, r, a, w', he, hw => ⟨st, he, hw⟩
  | .keep l :: gs, st, K, r, a, w', he, ⟨σ', h', X, S, hn, F⟩ => gh_ok gs he ⟨σ', _, X.part _, S.keep l, hn, F⟩
  | .coe s T :: gs, st, K, r, a, w', he, ⟨σ', h', X, S, hn, F⟩ => by
    simp only [ghK] at he
    cases hs : st.get s with
    | none => rw [hs] at he; cases he
    | some v =>
      rw [hs] at he
      simp only [] at he
      obtain ⟨hc, he⟩ := bif_some he
      simp only [Bool.and_eq_true] at hc
      cases hx : coeV v T with
      | none => rw [hx] at he; cases he
      | some y =>
        rw [hx] at he
        exact gh_ok gs he ⟨σ', h', X, S.coe hs hc.1 hc.2 hx, hn, F⟩
  | .split s p :: gs, st, K, r, a, w', he, ⟨σ', h', X, S, hn, F⟩ => by
    simp only [ghK] at he
    cases hs : st.get s with
    | none => rw [hs] at he; cases he
    | some v =>
      rw [hs] at he
      simp only [] at he
      obtain ⟨hc, he⟩ := bif_some he
      obtain ⟨_, cc, hw, hr⟩ := S.vals s v hs
      have hrel : ∀ cs, Rel σ' h' v.T false v.x cs [s] → wr v.T.agg (a.tmps.getD s undef) cs → ∃ u : SV, ghK gs ((s, some u) :: st) K = some r ∧ SRel σ' h' ((s, some u) :: st) a.tmps w' := by
        intro cs hr hw
        obtain ⟨u, k1, k2, k3, k4, k5⟩ := spK_ok he hc hr
        exact ⟨u, k1, S.retype1 hs hc k2 (by rw [k3]; exact id) ⟨cs, by rw [k4]; exact hw, k5⟩⟩
      obtain ⟨u, k1, k2⟩ := hrel cc hr hw
      exact gh_ok gs k1 ⟨σ', h', X, k2, hn, F⟩
theorem ev_ok : ∀ (c : XC) (code : Code), CodeM P fx.L n c code → ∀ {σ : Sg} {h : Hp} {st : St} {a : Act} {w : World} (E : Ks R) (K : St → Option R) (r : R), ev c st E K = some r → SRel σ h st a.tmps w → a.tmps.size = n → Fixed fx a →
    code.wp P (Ends w σ h fx n E K r) a w := by
  intro c
  induction c with
  | skip =>
    intro code hm σ h st a w E K r he S hn F
    cases code <;> first | exact hm.elim | skip
    · exact wp_skip ⟨st, he, σ, h, Ext.refl _ _ _, S, hn, F⟩
    · exact wp_label ⟨st, he, σ, h, Ext.refl _ _ _, S, hn, F⟩
  | reg xi =>
    intro code hm σ h st a w E K r he S hn F
    cases code <;> first | exact hm.elim | skip
    rename_i id ops draw
    cases draw
    · exact reg_ok hm S hn F he fun a' w' st2 hk k => ⟨st2, hk, k⟩
    · exact hm.elim
  | regD xi =>
    intro code hm σ h st a w E K r he S hn F
    cases code <;> first | exact hm.elim | skip
    rename_i id ops draw
    cases draw
    · exact hm.elim
    · exact regD_ok hm S hn F he fun a' w' st2 hk k => ⟨st2, hk, k⟩
  | seq x y ihx ihy =>
    intro code hm σ h st a w E K r he S hn F
    cases code <;> first | exact hm.elim | skip
    refine wp_seq (wp_mono (ihx _ hm.1 E _ r he S hn F) ?_)
    intro e a' w' k
    cases e with
    | normal =>
      obtain ⟨st', h1, σ', h', X, S', n', d'⟩ := k
      refine wp_mono (ihy _ hm.2 E K r h1 S' n' d') ?_
      intro e a'' w'' k
      exact Ends.trans X k
    | _ => exact k
  | cond o x y ihx ihy =>
    intro code hm σ h st a w E K r he S hn F
    cases code <;> first | exact hm.elim | skip
    rename_i cop _ _
    simp only [ev] at he
    split at he
    · rename_i c hc
      have e1 := opd_bool S hm.1 hc
      obtain ⟨c, rfl⟩ : ∃ b : Bool, b = c := ⟨c, rfl⟩
      cases c with
      | true => exact wp_cond_true e1 (ihx _ hm.2.1 E K r he S hn F)
      | false => exact wp_cond_false e1 (ihy _ hm.2.2 E K r he S hn F)
    · rename_i ng c hc
      obtain ⟨tg, cc, hw, hr⟩ := opd_rel S hm.1 hc
      simp only [Rel] at hr
      obtain ⟨b, e2, e3⟩ := hr
      have e1 : a.eval cop = .bool b := by have := slot_single rfl hw; rw [this] at e2; injection e2
      obtain ⟨c, rfl⟩ : ∃ b : Bool, b = c := ⟨c, rfl⟩
      have hboth : (if b then ev x st E K else ev y st E K) = some r := by
        cases c with
        | true =>
          obtain ⟨k1, k2⟩ := both_some he
          cases b
          · exact k2
          · exact k1
        | false =>
          rw [e3 rfl]
          cases ng <;> exact he
      cases b with
      | true => exact wp_cond_true e1 (ihx _ hm.2.1 E K r hboth S hn F)
      | false => exact wp_cond_false e1 (ihy _ hm.2.2 E K r hboth S hn F)
    · cases he
  | keep l x ih =>
    intro code hm σ h st a w E K r he S hn F
    have := ih code hm E K r he (S.keep l) hn F
    refine wp_mono this ?_
    intro e a' w' k
    have hs : ∀ b, h b = none → hpart (fun k => (St.get (keepSt st l) k).isSome) h b = none := fun b hb => hpart_none hb
    have X : Ext w σ h w σ (hpart (fun k => (St.get (keepSt st l) k).isSome) h) := (Ext.refl w σ h).part _
    exact Ends.trans X k
  | pre gs x ih =>
    intro code hm σ h st a w E K r he S hn F
    obtain ⟨st', he', hw⟩ := gh_ok gs he ⟨σ, h, Ext.refl _ _ _, S, hn, F⟩
    obtain ⟨σ', h', X, S', n', F'⟩ := hw
    refine wp_mono (ih code hm E K r he' S' hn F) ?_
    intro e a' w' k
    exact Ends.trans X k
  | aft x gs ih =>
    intro code hm σ h st a w E K r he S hn F
    refine wp_mono (ih code hm E (fun st' => ghK gs st' K) r he S hn F) ?_
    intro e a' w' k
    cases e with
    | normal =>
      obtain ⟨st', h1, hw⟩ := k
      obtain ⟨st'', h2, hw'⟩ := gh_ok gs h1 hw
      exact ⟨st'', h2, hw'⟩
    | _ => exact k
  | block i x ih =>
    intro code hm σ h st a w E K r he S hn F
    cases code <;> first | exact hm.elim | skip
    obtain ⟨rfl, hid6, hm⟩ := hm
    refine wp_block (wp_mono (ih _ hm { E with exits := (i, K) :: E.exits } K r he S hn F) ?_)
    intro e a' w' k
    cases e with
    | exit id =>
      obtain ⟨hlt, st', h1, h2⟩ := k
      simp only [Exit.inBlock]
      simp only [exitK] at h1
      by_cases hid : id = i
      · subst hid
        rw [if_pos rfl]
        rw [Nat.beq_refl] at h1
        exact ⟨st', h1, h2⟩
      · rw [if_neg hid]
        rw [nat_beq_false (Ne.symm hid)] at h1
        exact ⟨hlt, st', h1, h2⟩
    | goto l =>
      obtain ⟨st', h1, h2⟩ := k
      simp only [exitK] at h1
      rw [nat_beq_false (by unfold gkey; omega)] at h1
      exact ⟨st', h1, h2⟩
    | _ => exact k
  | loop m l x ih =>
    intro code hm σ h st a w E K r he S hn F
    cases code <;> first | exact hm.elim | skip
    rename_i body
    refine wp_loop_fuel (Q := Ends w σ h fx n E K r) (fun k a' w' => ∃ st', loopEv l (fun s k => ev x s E k) k st' = some r ∧ Went w σ h fx n st' a' w') (fun a' w' ⟨st', h1, _⟩ => by cases h1) ?_ (m := m) ⟨st, he, σ, h, Ext.refl _ _ _, S, hn, F⟩
    rintro k a' w' ⟨st', h1, σ', h', X, S', n', d'⟩
    refine wp_mono (ih body hm E _ r h1 (S'.keep l) n' d') ?_
    intro e a'' w'' k2
    have X2 : Ext w σ h w' σ' (hpart (fun k => (St.get (keepSt st' l) k).isSome) h') := X.part _
    have k3 := Ends.trans X2 k2
    cases e with
    | normal => exact k3
    | _ => exact k3
  | exit i =>
    intro code hm σ h st a w E K r he S hn F
    cases code <;> first | exact hm.elim | skip
    obtain ⟨this, hlt⟩ : i = _ ∧ _ := hm
    subst this
    exact wp_exit ⟨hlt, st, he, σ, h, Ext.refl _ _ _, S, hn, F⟩
  | goto l =>
    intro code hm σ h st a w E K r he S hn F
    cases code <;> first | exact hm.elim | skip
    have : l = _ := hm
    subst this
    exact wp_goto ⟨st, he, σ, h, Ext.refl _ _ _, S, hn, F⟩
  | dead =>
    intro code hm σ h st a w E K r he S hn F
    cases he
  | drop x ih =>
    intro code hm σ h st a w E K r he S hn F
    have hm : CodeM P fx.L n x code := by
      cases code <;> exact hm
    refine wp_mono (ih code hm (dropE E) K r he S hn F) ?_
    intro e a' w' k
    cases e with
    | normal => exact k
    | exit id => exact ⟨k.1, k.2.imp fun st' k => ⟨exitK_drop k.1, k.2⟩⟩
    | goto l => exact k.imp fun st' k => ⟨exitK_drop k.1, k.2⟩
    | ret => exact k
    | _ => exact k
  | scopeS x ihx =>
    intro code hm σ h st a w E K r he S hn F
    cases code <;> first | exact hm.elim | skip
    rename_i c
    simp only [ev] at he
    obtain ⟨hg, he⟩ := bif_some he
    refine wp_scope_straight (wp_mono (ihx c hm E K r he S hn F) ?_)
    intro e a' w' k
    cases e with
    | normal => exact k
    | exit id => exact k
    | goto l' =>
      obtain ⟨st', h1, h2⟩ := k
      rw [noG_none hg (by unfold gkey; omega)] at h1
      cases h1
    | ret => exact k
    | panic _ => exact k.elim
    | outgrown => exact k.elim
  | scope l x y ihx ihy =>
    intro code hm σ h st a w E K r he S hn F
    cases code <;> first | exact hm.elim | skip
    rename_i c
    obtain ⟨hm, b, hb, hmb⟩ := hm
    simp only [ev] at he
    obtain ⟨hg, he⟩ := bif_some he
    refine wp_scope_jumps l (fun a' w' => ∃ st', ev y st' { E with exits := (gkey l, fun _ => none) :: E.exits } K = some r ∧ Went w σ h fx n st' a' w') (fun _ _ => 0) hb ?_ ?_
    · refine wp_mono (ihx c hm _ K r he S hn F) ?_
      intro e a' w' k
      cases e with
      | normal => exact k
      | exit id =>
        obtain ⟨hlt, st', h1, h2⟩ := k
        simp only [exitK] at h1
        rw [nat_beq_false (by unfold gkey; omega)] at h1
        exact ⟨hlt, st', h1, h2⟩
      | goto l' =>
        obtain ⟨st', h1, h2⟩ := k
        simp only [exitK] at h1
        by_cases hl : l' = l
        · subst hl
          rw [Nat.beq_refl] at h1
          exact ⟨rfl, st', h1, h2⟩
        · rw [nat_beq_false (by unfold gkey; omega)] at h1
          rw [show (bif false then _ else exitK E.exits (gkey l') st') = exitK E.exits (gkey l') st' from rfl, noG_none hg (by unfold gkey; omega)] at h1
          cases h1
      | ret => exact k
      | _ => exact k
    · rintro a' w' ⟨st', h1, σ', h', X, S', n', d'⟩
      refine wp_mono (ihy b hmb _ K r h1 S' n' d') ?_
      intro e a'' w'' k
      have k := Ends.trans X k
      cases e with
      | normal => exact k
      | exit id =>
        obtain ⟨hlt, st', h1, h2⟩ := k
        simp only [exitK] at h1
        rw [nat_beq_false (by unfold gkey; omega)] at h1
        exact ⟨hlt, st', h1, h2⟩
      | goto l' =>
        obtain ⟨st', h1, h2⟩ := k
        simp only [exitK] at h1
        by_cases hl : l' = l
        · subst hl
          rw [Nat.beq_refl] at h1
          cases h1
        · rw [nat_beq_false (by unfold gkey; omega)] at h1
          rw [show (bif false then _ else exitK E.exits (gkey l') st') = exitK E.exits (gkey l') st' from rfl, noG_none hg (by unfold gkey; omega)] at h1
          cases h1
      | ret => exact k
      | _ => exact k
  | ret =>
    intro code hm σ h st a w E K r he S hn F
    cases code <;> first | exact hm.elim | skip
    exact wp_ret ⟨st, he, σ, h, Ext.refl _ _ _, S, hn, F⟩
end
end Go.Proofs.Bw
namespace Go.Proofs.Bw
open Go

def rvM (tab : Tab) : RV → ResultVar → Bool
  | .t s, .tmp t => Nat.beq s t
  | .c s sz ag, .cell t ty => Nat.beq s t && tabSz tab ty sz ag
  | _, _ => false
def resRun (tm : Array Value) : ResultVar → Sem Value
  | .tmp t => pure (tm.getD t undef)
  | .cell a t => do loadVar t (← asAddr (tm.getD a undef))

section
variable {P : Program} {tab : Tab} {σ : Sg} {h : Hp} {st : St} {tm : Array Value} {w : World}

/-- one result's value goes to a tag where nothing stands -/
theorem resV_ok (ht : TabOk P tab) {a : RV} {x : ResultVar} (hm : rvM tab a x = true) {v : SV} (hv : resV st.get a = some v) (hcl : v.T.closed = true) (I : Inv w σ h)
    (V : ∀ val, st.get a.slot = some val → val.T.closed = true → VRel σ h val.T val.x (tm.getD a.slot undef) [a.slot]) {t : Tag} (hno : ∀ b blk, h b = some blk → isPre t blk.tag = false) :
    ∃ h' val, Inv w σ h' ∧ VRel σ h' v.T v.x val t ∧ (resRun tm x).run P w = .ok val w ∧
      (∀ b blk k q, h b = some blk → blk.tag = k :: q → (k ≠ a.slot ∨ v.T.pure = true) → h' b = some blk) ∧ (∀ b blk, h' b = some blk → isPre t blk.tag = true ∨ h b = some blk) ∧ (∀ b, h b = none → h' b = none) := by
  cases a with
  | t s =>
    cases x <;> first | cases hm | skip
    rename_i t'
    have := Nat.eq_of_beq_eq_true hm
    subst this
    have hR := V v hv hcl
    cases hp : v.T.pure with
    | true => exact ⟨h, _, I, hR.pure σ.le_refl hp, rfl, fun b blk _ _ hb _ _ => hb, fun b blk hb => .inr hb, fun _ hb => hb⟩
    | false =>
      refine ⟨rt [s] t h, _, I.rt (fun b y hb hp => by rw [hno b y hb] at hp; cases hp), VRel.move σ.le_refl hcl (fun b blk q hb htg => rt_moved hb htg) hR, rfl, fun b blk k q hb htg hk => ?_, fun b blk hb => ?_, fun b hb => rt_none hb⟩
      · rcases hk with hk | hk
        · exact rt_kept hb (by rw [htg]; exact isPre_ne (Ne.symm hk))
        · cases hk
      · obtain ⟨y, hy, hcase⟩ := rt_some hb
        rcases hcase with ⟨q, k1, rfl⟩ | ⟨k1, rfl⟩
        · exact .inl (by rw [Blk.tag_withTag]; exact isPre_iff.2 ⟨q, rfl⟩)
        · exact .inr hy
  | c s sz ag =>
    cases x <;> first | cases hm | skip
    rename_i t' ty
    simp only [rvM, Bool.and_eq_true] at hm
    have := Nat.eq_of_beq_eq_true hm.1
    subst this
    simp only [resV] at hv
    split at hv
    · rename_i e y hs
      obtain ⟨hc, hv⟩ := bif_some hv
      simp only [Bool.and_eq_true] at hc
      injection hv with hv
      subst hv
      obtain ⟨c0, hw0, hr0⟩ := V ⟨.box e, y⟩ hs hc.2
      simp only [Rel] at hr0
      obtain ⟨bk, ch, e1, e2, e3⟩ := hr0
      have hval : tm.getD s undef = .pointer (some ⟨bk, 0, none⟩) := by have := slot_single rfl hw0; rw [this] at e1; injection e1
      obtain ⟨dd, j, hu, hi, hj, hdg⟩ := tabSz_ok ht hm.2
      have hlen := Rel.length e3
      have hag := bbeq_eq hc.1.2
      have hrun : (resRun tm (.cell s ty)).run P w = .ok (pick (descAgg dd) ch) w := by
        have := load_run (P := P) (w := w) (b := bk) (off := 0) (c := ch) hu hi (fun k u hk => by rw [Nat.zero_add, cell_at I e2 rfl]; exact hk) (by rw [hj, hlen]; exact Nat.eq_of_beq_eq_true hc.1.1) (one_of e3 (by rw [hdg, hag]))
        show (resRun tm (.cell s ty)).run P w = _
        simp only [resRun, hval, asAddr, Sem.run_bind, Sem.run_pure, Result.andThen_ok]
        exact this
      have hwr : wr e.agg (pick (descAgg dd) ch) ch := by
        rw [hag, ← hdg]
        exact wr_pick (one_of e3 (by rw [hdg, hag]))
      cases hp : e.pure with
      | true => exact ⟨h, _, I, ⟨ch, hwr, Rel.pure σ.le_refl hp e3⟩, hrun, fun b blk _ _ hb _ _ => hb, fun b blk hb => .inr hb, fun _ hb => hb⟩
      | false =>
        refine ⟨rt [s, 0] t h, _, I.rt (fun b y hb hp => by rw [hno b y hb] at hp; cases hp), ⟨ch, hwr, Rel.move σ.le_refl hcl (fun b blk q hb htg => rt_moved hb htg) e3⟩, hrun, fun b blk k q hb htg hk => ?_, fun b blk hb => ?_, fun b hb => rt_none hb⟩
        · rcases hk with hk | hk
          · exact rt_kept hb (by rw [htg]; exact isPre_ne (Ne.symm hk))
          · cases hk
        · obtain ⟨y, hy, hcase⟩ := rt_some hb
          rcases hcase with ⟨q, k1, rfl⟩ | ⟨k1, rfl⟩
          · exact .inl (by rw [Blk.tag_withTag]; exact isPre_iff.2 ⟨q, rfl⟩)
          · exact .inr hy
    · cases hv

def rvMs (tab : Tab) : List RV → List ResultVar → Bool
  | [], [] => true
  | a :: r, x :: s => rvM tab a x && rvMs tab r s
  | _, _ => false
theorem VRel.hp {h' : Hp} {T : Ty} {x : T.den} {v : Value} {t : Tag} (hcl : T.closed = true) (hk : ∀ b blk q, h b = some blk → blk.tag = t ++ q → h' b = some blk) (r : VRel σ h T x v t) : VRel σ h' T x v t :=
  VRel.move σ.le_refl hcl (fun b blk q hb ht => by rw [hk b blk q hb ht, ← ht]; cases blk <;> rfl) r

theorem resVs_ok (ht : TabOk P tab) (hlt : ∀ s v, st.get s = some v → s < tm.size) : ∀ (rs : List RV) (xs : List ResultVar) {u : List Nat} {v : SV} {h : Hp} {N : Nat} {t : Tag}, rvMs tab rs xs = true → resVs st.get u rs = some v → v.T.closed = true → Inv w σ h →
    (∀ s val, st.get s = some val → (val.T.pure = true ∨ s ∉ u) → val.T.closed = true → VRel σ h val.T val.x (tm.getD s undef) [s]) → tm.size ≤ N → (∀ b blk, h b = some blk → isPre (N :: t) blk.tag = false) →
    ∃ h' vs, Inv w σ h' ∧ Rel σ h' v.T true v.x vs (N :: t) ∧ vs.length = rs.length ∧ (xs.mapM (resRun tm)).run P w = .ok vs w ∧
      (∀ b blk k q, h b = some blk → blk.tag = k :: q → (k ∉ rs.map RV.slot ∨ k ∈ u) → h' b = some blk) ∧ (∀ b blk, h' b = some blk → isPre (N :: t) blk.tag = true ∨ h b = some blk) ∧ (∀ b, h b = none → h' b = none)
  | [], xs, u, v, h, N, t, hm, hv, hcl, I, V, hN, hno => by
    cases xs with
    | cons _ _ => cases hm
    | nil =>
      injection hv with hv
      subst hv
      exact ⟨h, [], I, rfl, rfl, rfl, fun b blk _ _ hb _ _ => hb, fun b blk hb => .inr hb, fun _ hb => hb⟩
  | a :: rs, xs, u, v, h, N, t, hm, hv, hcl, I, V, hN, hno => by
    cases xs with
    | nil => cases hm
    | cons x xs =>
      simp only [rvMs, Bool.and_eq_true] at hm
      simp only [resVs] at hv
      cases ha : resV st.get a with
      | none => rw [ha] at hv; cases hv
      | some va =>
        cases hr : resVs st.get (a.slot :: u) rs with
        | none => rw [ha, hr] at hv; cases hv
        | some vr =>
          rw [ha, hr] at hv
          obtain ⟨hc, hv⟩ := bif_some hv
          injection hv with hv
          subst hv
          simp only [Ty.closed, Bool.and_eq_true] at hcl
          -- the slot's own value
          obtain ⟨v0, hv0, hv0p⟩ : ∃ v0, st.get a.slot = some v0 ∧ (va.T.pure = false → v0.T.pure = false) := by
            cases a with
            | t s => exact ⟨va, ha, id⟩
            | c s sz ag =>
              simp only [resV] at ha
              split at ha
              · rename_i e y hs
                exact ⟨_, hs, fun _ => rfl⟩
              · cases ha
          have hsl := hlt _ _ hv0
          have hpu0 : (a.isT = true ∧ va.T.pure = true) ∨ a.slot ∉ u := by
            simp only [Bool.or_eq_true, Bool.and_eq_true, Bool.not_eq_true'] at hc
            exact hc.imp id fun hh hm => by rw [memN_iff.2 hm] at hh; cases hh
          have hpu : va.T.pure = true ∨ a.slot ∉ u := hpu0.imp And.right id
          obtain ⟨h1, val, I1, R1, run1, k1, k2, k3⟩ : ∃ h1 val, Inv w σ h1 ∧ VRel σ h1 va.T va.x val (N :: t ++ [1]) ∧ (resRun tm x).run P w = .ok val w ∧
              (∀ b blk k q, h b = some blk → blk.tag = k :: q → (k ≠ a.slot ∨ va.T.pure = true) → h1 b = some blk) ∧ (∀ b blk, h1 b = some blk → isPre (N :: t ++ [1]) blk.tag = true ∨ h b = some blk) ∧ (∀ b, h b = none → h1 b = none) := by
            have hno1 : ∀ b blk, h b = some blk → isPre (N :: t ++ [1]) blk.tag = false := fun b blk hb => by
              cases hh : isPre (N :: t ++ [1]) blk.tag with
              | false => rfl
              | true =>
                obtain ⟨q, e⟩ := isPre_iff.1 hh
                have := hno b blk hb
                rw [isPre_iff.2 ⟨[1] ++ q, by rw [e]; simp⟩] at this
                cases this
            rcases hpu0 with ⟨hT, hpv⟩ | hpv
            · cases a with
              | t s =>
                -- a copy
                cases x <;> first | cases hm.1 | skip
                rename_i t'
                have := Nat.eq_of_beq_eq_true hm.1
                subst this
                exact ⟨h, _, I, (V s va ha (.inl hpv) hcl.1).pure σ.le_refl hpv, rfl, fun b blk _ _ hb _ _ => hb, fun b blk hb => .inr hb, fun _ hb => hb⟩
              | c s sz ag => cases hT
            · exact resV_ok ht hm.1 ha hcl.1 I (fun val hval hvc => V _ val hval (.inr hpv) hvc) hno1
          obtain ⟨h', vs, I2, R2, len2, run2, m1, m2, m3⟩ := resVs_ok ht hlt rs xs (u := a.slot :: u) (N := N) (t := t ++ [2]) hm.2 hr hcl.2 I1
            (fun s val hval hor hvc => by
              rcases hor with hp | hs
              · by_cases hsu : s ∈ u
                · exact VRel.pure σ.le_refl hp (V s val hval (.inl hp) hvc)
                · exact VRel.pure σ.le_refl hp (V s val hval (.inl hp) hvc)
              · have hsu : s ∉ u := fun hh => hs (by simp [hh])
                refine VRel.hp hvc (fun b blk q hb htg => k1 b blk s q hb htg (.inl fun e => hs (by simp [e]))) (V s val hval (.inr hsu) hvc))
            hN (fun b blk hb => by
              cases hh : isPre (N :: (t ++ [2])) blk.tag with
              | false => rfl
              | true =>
                obtain ⟨q, e⟩ := isPre_iff.1 hh
                rcases k2 b blk hb with hx | hx
                · obtain ⟨q', e'⟩ := isPre_iff.1 hx
                  rw [e'] at e
                  have e : (N :: t) ++ ([1] ++ q') = (N :: t) ++ ([2] ++ q) := by simpa using e
                  have := List.append_cancel_left e
                  simp at this
                · have := hno b blk hx
                  rw [isPre_iff.2 ⟨[2] ++ q, by rw [e]; simp⟩] at this
                  cases this)
          have hNs : ∀ s val, st.get s = some val → s ≠ N := fun s val hval e => by have := hlt s val hval; omega
          have hslots : ∀ (l : List RV) (u : List Nat) (v : SV), resVs st.get u l = some v → N ∉ l.map RV.slot := by
            intro l
            induction l with
            | nil => intro _ _ _ hh; cases hh
            | cons y l ih =>
              intro u v hv hh
              simp only [resVs] at hv
              cases hy : resV st.get y with
              | none => rw [hy] at hv; cases hv
              | some vy =>
                cases hl : resVs st.get (y.slot :: u) l with
                | none => rw [hy, hl] at hv; cases hv
                | some vl =>
                  rcases List.mem_cons.1 hh with hh | hh
                  · cases y with
                    | t s => exact hNs s vy hy hh.symm
                    | c s sz ag =>
                      simp only [resV] at hy
                      split at hy
                      · rename_i e z hs; exact hNs s _ hs hh.symm
                      · cases hy
                  · exact ih _ _ hl hh
          refine ⟨h', val :: vs, I2, ?_, by simp [len2], ?_, ?_, ?_, fun b hb => m3 b (k3 b hb)⟩
          · simp only [Rel]
            obtain ⟨c, hw, hrel⟩ := R1
            refine ⟨val, vs, rfl, ⟨c, hw, ?_⟩, R2⟩
            exact Rel.move σ.le_refl hcl.1 (fun b blk q hb htg => by
              rw [m1 b blk N (t ++ [1] ++ q) hb (by rw [htg]; simp) (.inl (hslots rs _ _ hr)), ← htg]; cases blk <;> rfl) hrel
          · simp only [List.mapM_cons, Sem.run_bind, run1, Result.andThen_ok, run2, Sem.run_pure]
          · intro b blk k q hb htg hk
            have hk1 : h1 b = some blk := k1 b blk k q hb htg (by
              by_cases e : k = a.slot
              · subst e
                rcases hk with hk | hk
                · exact (hk (by simp)).elim
                · rcases hpu with hp | hp
                  · exact .inr hp
                  · exact (hp hk).elim
              · exact .inl e)
            exact m1 b blk k q hk1 htg (hk.imp (fun hh hm => hh (by simp [hm])) fun hh => by simp [hh])
          · intro b blk hb
            rcases m2 b blk hb with hx | hx
            · obtain ⟨q, e⟩ := isPre_iff.1 hx
              exact .inl (isPre_iff.2 ⟨[2] ++ q, by rw [e]; simp⟩)
            · rcases k2 b blk hx with hx | hx
              · obtain ⟨q, e⟩ := isPre_iff.1 hx
                exact .inl (isPre_iff.2 ⟨[1] ++ q, by rw [e]; simp⟩)
              · exact .inr hx
end
end Go.Proofs.Bw
namespace Go.Proofs.Bw
open Go

/-- what is known of a function's slots behind a call: what was lent, and the result -/
def finSt : (i : Nat) → (ps : List (Ty × Bool)) → (r : Ty) → (rtOf ps r).den → St
  | i, [], r, y => [(i, some ⟨r, y⟩)]
  | i, (T, true) :: ps, r, y => (i, some ⟨T, y.1⟩) :: finSt (i + 1) ps r y.2
  | i, (_, false) :: ps, r, y => finSt (i + 1) ps r y
theorem lentOf_lt : ∀ {i : Nat} {ps : List (Ty × Bool)} {s : Nat}, s ∈ lentOf i ps → i ≤ s ∧ s < i + ps.length
  | i, [], s, h => by cases h
  | i, (T, true) :: ps, s, h => by
    rcases List.mem_cons.1 h with rfl | h
    · simp
    · have := lentOf_lt h; simp only [List.length_cons]; omega
  | i, (T, false) :: ps, s, h => by have := lentOf_lt (i := i + 1) (ps := ps) h; simp only [List.length_cons]; omega
theorem finSt_some {g : Nat → Option SV} : ∀ {i : Nat} {ps : List (Ty × Bool)} {r : Ty} {x : r.den} {y : (rtOf ps r).den}, finK g i ps r x = some y → ∀ {s : Nat} {v : SV}, (finSt i ps r y).get s = some v →
    (s = i + ps.length ∧ v = ⟨r, x⟩) ∨ (s ∈ lentOf i ps ∧ (v.T, true) ∈ ps ∧ ∃ v0, g s = some v0 ∧ coe false v0.T v.T v0.x = some v.x)
  | i, [], r, x, y, hf, s, v, hg => by
    injection hf with hf
    subst hf
    simp only [finSt] at hg
    rw [get_cons] at hg
    split at hg
    · rename_i e; injection hg with hg; exact .inl ⟨by simp [e], hg.symm⟩
    · cases hg
  | i, (T, true) :: ps, r, x, y, hf, s, v, hg => by
    simp only [finK] at hf
    cases hi : g i with
    | none => rw [hi] at hf; cases hf
    | some v0 =>
      cases hr : finK g (i + 1) ps r x with
      | none => rw [hi, hr] at hf; cases hf
      | some y0 =>
        rw [hi, hr] at hf
        simp only [coeV] at hf
        cases hc : coe false v0.T T v0.x with
        | none => rw [hc] at hf; cases hf
        | some z =>
          rw [hc] at hf
          injection hf with hf
          subst hf
          simp only [finSt] at hg
          rw [get_cons] at hg
          split at hg
          · rename_i e
            subst e
            injection hg with hg
            subst hg
            exact .inr ⟨by simp [lentOf], by simp, v0, hi, hc⟩
          · rcases finSt_some hr hg with ⟨h1, h2⟩ | ⟨h1, h2, h3⟩
            · exact .inl ⟨by simp only [List.length_cons]; omega, h2⟩
            · exact .inr ⟨by simp [lentOf, h1], by simp [h2], h3⟩
  | i, (T, false) :: ps, r, x, y, hf, s, v, hg => by
    rcases finSt_some (g := g) (i := i + 1) (ps := ps) (r := r) (x := x) (y := y) hf hg with ⟨h1, h2⟩ | ⟨h1, h2, h3⟩
    · exact .inl ⟨by simp only [List.length_cons]; omega, h2⟩
    · exact .inr ⟨h1, by simp [h2], h3⟩
theorem finSt_res {g : Nat → Option SV} : ∀ {i : Nat} {ps : List (Ty × Bool)} {r : Ty} {x : r.den} {y : (rtOf ps r).den}, finK g i ps r x = some y → (finSt i ps r y).get (i + ps.length) = some ⟨r, x⟩
  | i, [], r, x, y, hf => by
    injection hf with hf
    subst hf
    simp only [finSt]
    rw [get_cons, if_pos (by simp)]
  | i, (T, true) :: ps, r, x, y, hf => by
    simp only [finK] at hf
    cases hi : g i with
    | none => rw [hi] at hf; cases hf
    | some v0 =>
      cases hr : finK g (i + 1) ps r x with
      | none => rw [hi, hr] at hf; cases hf
      | some y0 =>
        rw [hi, hr] at hf
        simp only [coeV] at hf
        cases hc : coe false v0.T T v0.x with
        | none => rw [hc] at hf; cases hf
        | some z =>
          rw [hc] at hf
          injection hf with hf
          subst hf
          simp only [finSt]
          rw [get_cons, if_neg (by simp only [List.length_cons]; omega), List.length_cons, show i + (ps.length + 1) = i + 1 + ps.length by omega]
          exact finSt_res hr
  | i, (T, false) :: ps, r, x, y, hf => by
    have := finSt_res (g := g) (i := i + 1) (ps := ps) (r := r) (x := x) (y := y) hf
    rw [List.length_cons, show i + (ps.length + 1) = i + 1 + ps.length by omega]
    exact this
theorem finSt_none : ∀ {i : Nat} {ps : List (Ty × Bool)} {r : Ty} {y : (rtOf ps r).den} {s : Nat}, s ∉ lentOf i ps → s ≠ i + ps.length → (finSt i ps r y).get s = none
  | i, [], r, y, s, h1, h2 => by simp only [finSt]; rw [get_cons, if_neg (fun e => h2 (by simp [e]))]; rfl
  | i, (T, true) :: ps, r, y, s, h1, h2 => by
    simp only [lentOf, List.mem_cons, not_or] at h1
    simp only [finSt]
    rw [get_cons, if_neg (Ne.symm h1.1)]
    exact finSt_none h1.2 (by simp only [List.length_cons] at h2; omega)
  | i, (T, false) :: ps, r, y, s, h1, h2 => by
    exact finSt_none (i := i + 1) (ps := ps) (r := r) (y := y) h1 (by simp only [List.length_cons] at h2; omega)

def tupOf : List Value → Value
  | [v] => v
  | vs => .tuple ⟨vs⟩
section
variable {P : Program} {tab : Tab} {σ : Sg} {h : Hp} {st : St} {tm : Array Value} {w : World}

theorem resAll_ok (ht : TabOk P tab) {rs : List RV} {xs : List ResultVar} {u : List Nat} {v : SV} (hm : rvMs tab rs xs = true) (hv : resAll st.get u rs = some v) (hcl : v.T.closed = true) (S : SRel σ h st tm w) :
    ∃ h' vs, Inv w σ h' ∧ VRel σ h' v.T v.x (tupOf vs) [tm.size] ∧ (xs.mapM (resRun tm)).run P w = .ok vs w ∧
      (∀ b blk k q, h b = some blk → blk.tag = k :: q → k ∈ u → h' b = some blk) ∧ (∀ b, h b = none → h' b = none) := by
  have hlt : ∀ s v, st.get s = some v → s < tm.size := fun s v hs => (S.vals s v hs).1
  have hnoN : ∀ t b blk, h b = some blk → isPre (tm.size :: t) blk.tag = false := fun t b blk hb => by
    obtain ⟨k, q, e, x, hx, _⟩ := S.own b blk hb
    rw [e]
    exact isPre_ne (by have := hlt k x hx; omega)
  have general : ∀ {vv : SV}, resVs st.get u rs = some vv → v = ⟨.tup vv.T, vv.x⟩ → rs.length ≠ 1 → ∃ h' vs, Inv w σ h' ∧ VRel σ h' v.T v.x (tupOf vs) [tm.size] ∧ (xs.mapM (resRun tm)).run P w = .ok vs w ∧
      (∀ b blk k q, h b = some blk → blk.tag = k :: q → k ∈ u → h' b = some blk) ∧ (∀ b, h b = none → h' b = none) := by
    intro vv hvv e hl
    subst e
    obtain ⟨h', vs, k1, k2, kl, k3, k4, k5, k6⟩ := resVs_ok ht hlt rs xs (N := tm.size) (t := [6]) hm hvv hcl S.inv (fun s val hs _ _ => (S.vals s val hs).2) (Nat.le_refl _) (hnoN [6])
    refine ⟨h', vs, k1, ⟨_, rfl, ?_⟩, k3, fun b blk k q hb htg hk => k4 b blk k q hb htg (.inr hk), k6⟩
    have : tupOf vs = .tuple ⟨vs⟩ := by
      unfold tupOf
      split
      · simp at kl; omega
      · rfl
    rw [this]
    simp only [Rel]
    exact ⟨vs, rfl, k2⟩
  have many : rs.length ≠ 1 → (match resVs st.get u rs with
      | some v => some (⟨.tup v.T, v.x⟩ : SV)
      | none => none) = some v → ∃ h' vs, Inv w σ h' ∧ VRel σ h' v.T v.x (tupOf vs) [tm.size] ∧ (xs.mapM (resRun tm)).run P w = .ok vs w ∧
      (∀ b blk k q, h b = some blk → blk.tag = k :: q → k ∈ u → h' b = some blk) ∧ (∀ b, h b = none → h' b = none) := by
    intro hl hh
    cases hvv : resVs st.get u rs with
    | none => rw [hvv] at hh; cases hh
    | some vv => rw [hvv] at hh; injection hh with hh; exact general hvv hh.symm hl
  cases rs with
  | nil => exact many (by simp) hv
  | cons a rs =>
    cases rs with
    | cons b rs => exact many (by simp) hv
    | nil =>
      cases xs with
      | nil => cases hm
      | cons x xs =>
        cases xs with
        | cons _ _ => simp [rvMs] at hm
        | nil =>
          simp only [rvMs, Bool.and_true] at hm
          simp only [resAll] at hv
          cases ha : resV st.get a with
          | none => rw [ha] at hv; cases hv
          | some va =>
            rw [ha] at hv
            obtain ⟨hc, hv⟩ := bif_some hv
            injection hv with hv
            subst hv
            obtain ⟨h', val, k1, k2, k3, k4, k5, k6⟩ := resV_ok ht hm ha hcl S.inv (fun val hs _ => (S.vals _ val hs).2) (hnoN [])
            refine ⟨h', [val], k1, k2, by simp [k3], fun b blk k q hb htg hk => k4 b blk k q hb htg ?_, k6⟩
            simp only [Bool.or_eq_true, Bool.and_eq_true, Bool.not_eq_true'] at hc
            rcases hc with hc | hc
            · exact .inr hc.2
            · refine .inl fun e => ?_
              rw [← e, memN_iff.2 hk] at hc; cases hc
/-- what a body's end gives -/
theorem ret_ok (ht : TabOk P tab) {ps : List (Ty × Bool)} {r : Ty} {rs : List RV} {xs : List ResultVar} {y : (rtOf ps r).den} {args : Array Value} (hm : rvMs tab rs xs = true) (hret : retK rs ps r st = some y)
    (S : SRel σ h st tm w) (hcl : ∀ T, (T, true) ∈ ps → T.closed = true) (hrc : r.closed = true) (hL : ∀ i ∈ lentOf 0 ps, tm.getD i undef = args.getD i undef) (hsz : args.size = ps.length) :
    ∃ vs h', (xs.mapM (resRun tm)).run P w = .ok vs w ∧ Ext w σ h w σ h' ∧ SRel σ h' (finSt 0 ps r y) (args.push (tupOf vs)) w := by
  unfold retK at hret
  cases hv : resAll st.get (lentOf 0 ps) rs with
  | none => rw [hv] at hret; cases hret
  | some v =>
    rw [hv] at hret
    obtain ⟨hvc, hret⟩ := bif_some hret
    cases hx : coeV v r with
    | none => rw [hx] at hret; cases hret
    | some x =>
      rw [hx] at hret
      obtain ⟨h1, vs, I1, R1, run, k1, k2⟩ := resAll_ok ht hm hv hvc S
      generalize hN : tm.size = N at R1
      let A : Nat → Bool := fun k => (memN (lentOf 0 ps) k && (match (finSt 0 ps r y).get k with
        | some v => !v.T.pure
        | none => false)) || (Nat.beq k N && !r.pure)
      refine ⟨vs, rt [N] [ps.length] (hpart A h1), run, ⟨Nat.le_refl _, σ.le_refl, rfl, rfl, rfl, fun b _ hb => ⟨rfl, rt_none (hpart_none (k2 b hb)), fun _ => rfl⟩⟩, ?_⟩
      have hfin := fun {s v} => finSt_some (s := s) (v := v) hret
      have hres : (finSt 0 ps r y).get ps.length = some ⟨r, x⟩ := by have := finSt_res hret; rwa [Nat.zero_add] at this
      have hltN : ∀ s v, st.get s = some v → s < N := fun s v hs => by rw [← hN]; exact (S.vals s v hs).1
      have hAu : ∀ k v, k ∈ lentOf 0 ps → (finSt 0 ps r y).get k = some v → v.T.pure = false → A k = true := fun k v hk hv hp => by
        show (memN (lentOf 0 ps) k && _ || _) = true
        rw [memN_iff.2 hk, hv]; simp [hp]
      have hAN : r.pure = false → A N = true := fun hp => by
        show (_ || (Nat.beq N N && !r.pure)) = true
        rw [hp, Nat.beq_refl]; simp
      have hA : ∀ k, A k = true → (k ∈ lentOf 0 ps ∧ ∃ v, (finSt 0 ps r y).get k = some v ∧ v.T.pure = false) ∨ (k = N ∧ r.pure = false) := by
        intro k hk
        have hk : (memN (lentOf 0 ps) k && (match (finSt 0 ps r y).get k with
          | some v => !v.T.pure
          | none => false) || (Nat.beq k N && !r.pure)) = true := hk
        rw [Bool.or_eq_true, Bool.and_eq_true, Bool.and_eq_true] at hk
        rcases hk with ⟨h1, h2⟩ | ⟨h1, h2⟩
        · refine .inl ⟨memN_iff.1 h1, ?_⟩
          split at h2
          · rename_i v hv; exact ⟨v, hv, by simpa using h2⟩
          · cases h2
        · exact .inr ⟨beq_iff.1 h1, by simpa using h2⟩
      have hlentN : ∀ k v, k ∈ lentOf 0 ps → (finSt 0 ps r y).get k = some v → k < ps.length ∧ k < N := by
        intro k v hk hv
        have h1 := lentOf_lt hk
        rcases hfin hv with ⟨e, _⟩ | ⟨_, _, v0, hv0, _⟩
        · omega
        · exact ⟨by omega, hltN k v0 hv0⟩
      have I3 : Inv w σ (rt [N] [ps.length] (hpart A h1)) := (I1.sub fun b z hb => (hpart_some hb).1).rt fun b z hb hp => by
        obtain ⟨_, k, q, e, hk⟩ := hpart_some hb
        rw [e] at hp ⊢
        have hkm : ps.length = k := isPre_head hp
        rcases hA k hk with ⟨h1, v', h2, _⟩ | ⟨h1, _⟩
        · have := (hlentN k v' h1 h2).1; omega
        · rw [h1]; exact isPre_single
      have hclos : ∀ s v', (finSt 0 ps r y).get s = some v' → v'.T.closed = true := by
        intro s v' hs
        rcases hfin hs with ⟨_, rfl⟩ | ⟨_, h2, _⟩
        · exact hrc
        · exact hcl _ h2
      refine ⟨I3, fun s v' hs => ?_, fun s v' hs => closed_okTop (hclos s v' hs), fun s v' u' hs hu => (by rw [closed_looks (hclos s v' hs)] at hu; cases hu), fun b blk hb => ?_⟩
      · rcases hfin hs with ⟨e, rfl⟩ | ⟨h1', h2, v0, hv0, hc0⟩
        · rw [Nat.zero_add] at e
          subst e
          refine ⟨by simp [hsz], ?_⟩
          have hval : (args.push (tupOf vs)).getD ps.length undef = tupOf vs := by rw [← hsz]; simp [Array.getD_eq_getD_getElem?]
          rw [hval]
          obtain ⟨c, hw, hr⟩ := R1
          have hr' : Rel σ h1 r false x c [N] := coe_rel hx hr
          have hw' : wr r.agg (tupOf vs) c := by rw [coe_agg hx]; exact hw
          refine ⟨c, hw', ?_⟩
          cases hp : r.pure with
          | true => exact Rel.pure σ.le_refl hp hr'
          | false => exact Rel.move σ.le_refl hrc (fun b blk q hb htg => rt_moved (hpart_of hb htg (hAN hp)) htg) hr'
        · obtain ⟨e1, e2⟩ := hlentN s v' h1' hs
          refine ⟨by simp [hsz]; omega, ?_⟩
          have hval : (args.push (tupOf vs)).getD s undef = tm.getD s undef := by
            rw [hL s h1']
            simp only [Array.getD_eq_getD_getElem?]
            rw [Array.getElem?_push, if_neg (by omega)]
          rw [hval]
          obtain ⟨c, hw, hr⟩ := (S.vals s v0 hv0).2
          have hr' : Rel σ h v'.T false v'.x c [s] := coe_rel hc0 hr
          refine ⟨c, by rw [coe_agg hc0]; exact hw, ?_⟩
          cases hp : v'.T.pure with
          | true => exact Rel.pure σ.le_refl hp hr'
          | false =>
            refine Rel.move σ.le_refl (hcl _ h2) (fun b blk q hb htg => ?_) hr'
            rw [rt_kept (hpart_of (k1 b blk s q hb htg h1') htg (hAu s v' h1' hs hp)) (by rw [htg]; exact isPre_ne (by omega)), ← htg]
            cases blk <;> rfl
      · obtain ⟨z, hz, hcase⟩ := rt_some hb
        obtain ⟨hz1, k, q, e, hk⟩ := hpart_some hz
        rcases hcase with ⟨q', k3, rfl⟩ | ⟨k3, rfl⟩
        · refine ⟨ps.length, q', by rw [Blk.tag_withTag]; rfl, ⟨r, x⟩, hres, ?_, hrc⟩
          rw [e] at k3
          simp only [List.cons_append, List.nil_append, List.cons.injEq] at k3
          rcases hA k hk with ⟨h1', v', h2, _⟩ | ⟨_, h2⟩
          · have := (hlentN k v' h1' h2).2; omega
          · exact h2
        · rcases hA k hk with ⟨h1', v', h2, h3⟩ | ⟨h1', _⟩
          · exact ⟨k, q, e, v', h2, h3, hclos k v' h2⟩
          · rw [e, h1', isPre_single] at k3; cases k3
end
end Go.Proofs.Bw
namespace Go.Proofs.Bw
open Go

def Enters (P : Program) (f : FuncId) : Prop := ∃ fn, P.funcs[f]? = some fn ∧ fn.body.isNone = false ∧ (fn.name == "runtime.NumGoroutine") = false
structure Sound (P : Program) (sp : FSpec) : Prop where
  ent : Enters P sp.f
  ok : ∀ x y, sp.run x = some y → ∀ (σ : Sg) (h : Hp) (w : World) (args : Array Value), args.size = sp.ps.length → SRel σ h (initSt 0 sp.ps x) args w →
    Calls P sp.f args w fun e w' => match e with
      | .returned v => ∃ σ' h', Ext w σ h w' σ' h' ∧ SRel σ' h' (finSt 0 sp.ps sp.r y) (args.push v) w'
      | _ => False

/-- a function that is entered, or one of the model's own -/
def Does (P : Program) (f : FuncId) (args : Array Value) (w : World) (R : Ending → World → Prop) : Prop :=
  (Enters P f ∧ Calls P f args w R) ∨ ∃ v w', (callFunc f args).run P w = .ok (.value v) w' ∧ R (.returned v) w'
structure Meets (P : Program) (sp : FSpec) : Prop where
  ok : ∀ x y, sp.run x = some y → ∀ (σ : Sg) (h : Hp) (w : World) (args : Array Value), args.size = sp.ps.length → SRel σ h (initSt 0 sp.ps x) args w →
    Does P sp.f args w fun e w' => match e with
      | .returned v => ∃ σ' h', Ext w σ h w' σ' h' ∧ SRel σ' h' (finSt 0 sp.ps sp.r y) (args.push v) w'
      | _ => False
theorem Sound.meets {P : Program} {sp : FSpec} (hs : Sound P sp) : Meets P sp := ⟨fun x y hx σ h w args hsz S => .inl ⟨hs.ent, hs.ok x y hx σ h w args hsz S⟩⟩

section
variable {P : Program} {tab : Tab}
theorem results_run {fn : Func} {tm : Array Value} {vs : List Value} {w : World} (hr : (fn.results.toList.mapM (resRun tm)).run P w = .ok vs w) : (results fn tm).run P w = .ok (tupOf vs) w := by
  have hd : results fn tm = (do
      let vs ← fn.results.mapM (resRun tm)
      pure (if h : vs.size = 1 then vs[0] else .tuple vs)) := rfl
  rw [hd, Array.mapM_eq_mapM_toList]
  simp only [Sem.run_bind, Sem.run_map, hr, Result.andThen_ok]
  match vs with
  | [] => rfl
  | [v] => rfl
  | v :: u :: l => simp [tupOf]
theorem SRel.grow {σ : Sg} {h : Hp} {st : St} {tm : Array Value} {w : World} (S : SRel σ h st tm w) (xs : Array Value) : SRel σ h st (tm ++ xs) w :=
  ⟨S.inv, fun s v hs => by
    obtain ⟨h1, h2⟩ := S.vals s v hs
    refine ⟨by simp; omega, ?_⟩
    have : (tm ++ xs).getD s undef = tm.getD s undef := by simp only [Array.getD_eq_getD_getElem?, Array.getElem?_append_left h1]
    rw [this]; exact h2, S.typ, S.look, S.own⟩
theorem fn_ok (ht : TabOk P tab) {f : FuncId} {fn : Func} {code : Code} {c : XC} {rs : List RV} {ps : List (Ty × Bool)} {r : Ty} (hf : P.funcs[f]? = some fn) (hb : fn.body = some code)
    (hm : CodeM P (lentOf 0 ps) fn.ntmps c code) (hrs : rvMs tab rs fn.results.toList = true) (hn : ps.length ≤ fn.ntmps) (hcl : ∀ T, (T, true) ∈ ps → T.closed = true) (hrc : r.closed = true)
    {x : (chain ps).den} {y : (rtOf ps r).den} (hev : evFn c rs ps r x = some y) (σ : Sg) (h : Hp) (w : World) (args : Array Value) (hsz : args.size = ps.length) (S : SRel σ h (initSt 0 ps x) args w) :
    Calls P f args w fun e w' => match e with
      | .returned v => ∃ σ' h', Ext w σ h w' σ' h' ∧ SRel σ' h' (finSt 0 ps r y) (args.push v) w'
      | _ => False := by
  refine calls_of_wp hf hb ?_
  have hlen : (args ++ Array.replicate (fn.ntmps - args.size) undef).size = fn.ntmps := by simp; omega
  let fx : Fx := ⟨[], lentOf 0 ps, fun i => args.getD i undef⟩
  have hF : Fixed fx { tmps := args ++ Array.replicate (fn.ntmps - args.size) undef, defers := [] } := ⟨rfl, fun i hi => by
    have := (lentOf_lt (i := 0) hi).2
    have h1 : i < args.size := by omega
    show (args ++ Array.replicate (fn.ntmps - args.size) undef).getD i undef = args.getD i undef
    simp only [Array.getD_eq_getD_getElem?, Array.getElem?_append_left h1]⟩
  have main := ev_ok (fx := fx) (n := fn.ntmps) (P := P) c code hm (a := { tmps := args ++ Array.replicate (fn.ntmps - args.size) undef, defers := [] }) { ret := retK rs ps r, exits := [] } (retK rs ps r) y hev (S.grow _) hlen hF
  refine wp_mono main ?_
  intro e a' w' k
  have fin : ∀ st', retK rs ps r st' = some y → Went w σ h fx fn.ntmps st' a' w' → a'.defers = [] ∧ ∃ v, (results fn a'.tmps).run P w' = .ok v w' ∧ ∃ σ' h', Ext w σ h w' σ' h' ∧ SRel σ' h' (finSt 0 ps r y) (args.push v) w' := by
    rintro st' hret ⟨σ', h', E, S', n', F'⟩
    obtain ⟨vs, h2, k1, k2, k3⟩ := ret_ok ht hrs hret S' hcl hrc (fun i hi => F'.val i hi) hsz
    exact ⟨F'.df, _, results_run k1, σ', h2, E.trans k2, k3⟩
  cases e with
  | normal => obtain ⟨st', h1, h2⟩ := k; exact fin st' h1 h2
  | ret => obtain ⟨st', h1, h2⟩ := k; exact fin st' h1 h2
  | exit id => obtain ⟨_, st', h1, _⟩ := k; cases h1
  | goto l => obtain ⟨st', h1, _⟩ := k; cases h1
  | _ => exact k.elim
end
end Go.Proofs.Bw
namespace Go.Proofs.Bw
open Go

/-- what lies below u goes below v (e: what is u alone) -/
structure Pc where
  u : Tag
  v : Tag
  e : Bool
def Pc.ext (c : Pc) (x : Tag) : Prop := c.e = true → x = []
def Pc.flip (c : Pc) : Pc := ⟨c.v, c.u, c.e⟩
def pcm : List Pc → Tag → Option Tag
  | [], _ => none
  | c :: r, t => match strip c.u t with
    | some x => bif c.e && !x.isEmpty then pcm r t else some (c.v ++ x)
    | none => pcm r t
def ApU (c d : Pc) : Prop := ∀ x y, c.ext x → d.ext y → c.u ++ x ≠ d.u ++ y
def ApV (c d : Pc) : Prop := ∀ x y, c.ext x → d.ext y → c.v ++ x ≠ d.v ++ y
theorem pcm_some : ∀ {l : List Pc} {t t' : Tag}, pcm l t = some t' → ∃ c x, c ∈ l ∧ c.ext x ∧ t = c.u ++ x ∧ t' = c.v ++ x
  | [], _, _, h => by cases h
  | c :: r, t, t', h => by
    simp only [pcm] at h
    have hrec : pcm r t = some t' → ∃ d x, d ∈ c :: r ∧ d.ext x ∧ t = d.u ++ x ∧ t' = d.v ++ x := fun h =>
      let ⟨d, x, h1, h2⟩ := pcm_some h; ⟨d, x, List.mem_cons_of_mem _ h1, h2⟩
    split at h
    · rename_i x hx
      generalize hc : (c.e && !x.isEmpty) = cc at h
      cases cc with
      | true => exact hrec h
      | false =>
        injection h with h
        refine ⟨c, x, List.mem_cons_self, fun he => ?_, strip_some.1 hx, h.symm⟩
        rw [he] at hc
        simpa using hc
    · exact hrec h
theorem pcm_of : ∀ {l : List Pc} {c : Pc} {x : Tag}, l.Pairwise ApU → c ∈ l → c.ext x → pcm l (c.u ++ x) = some (c.v ++ x)
  | [], _, _, _, h, _ => by cases h
  | d :: r, c, x, hp, hc, hx => by
    obtain ⟨h1, h2⟩ := List.pairwise_cons.1 hp
    simp only [pcm]
    rcases List.mem_cons.1 hc with rfl | hc
    · have : strip c.u (c.u ++ x) = some x := strip_some.2 rfl
      rw [this]
      have hcc : (c.e && !x.isEmpty) = false := by
        cases he : c.e with
        | false => rfl
        | true => rw [hx he]; rfl
      simp only [hcc, cond_false]
    · cases hs : strip d.u (c.u ++ x) with
      | none => exact pcm_of h2 hc hx
      | some y =>
        have hy := strip_some.1 hs
        have hcc : (d.e && !y.isEmpty) = true := by
          cases he : d.e with
          | false => exact (h1 c hc y x (fun e => by rw [he] at e; cases e) hx hy.symm).elim
          | true =>
            cases y with
            | nil => exact (h1 c hc [] x (fun _ => rfl) hx hy.symm).elim
            | cons _ _ => rfl
        simp only [hcc, cond_true]
        exact pcm_of h2 hc hx
theorem pcm_flip_of {l : List Pc} {c : Pc} {x : Tag} (hp : l.Pairwise ApV) (hc : c ∈ l) (hx : c.ext x) : pcm (l.map Pc.flip) (c.v ++ x) = some (c.u ++ x) :=
  pcm_of (l := l.map Pc.flip) (c := c.flip) (x := x) (List.pairwise_map.2 (hp.imp fun {a b} (h : ApV a b) x y hx hy => h x y hx hy)) (List.mem_map.2 ⟨c, hc, rfl⟩) hx
theorem pcm_flip_some {l : List Pc} {t t' : Tag} (h : pcm (l.map Pc.flip) t = some t') : ∃ c x, c ∈ l ∧ c.ext x ∧ t = c.v ++ x ∧ t' = c.u ++ x := by
  obtain ⟨d, x, h1, h2, h3, h4⟩ := pcm_some h
  obtain ⟨c, hc, rfl⟩ := List.mem_map.1 h1
  exact ⟨c, x, hc, h2, h3, h4⟩
theorem pcm_inj {l : List Pc} (hp : l.Pairwise ApV) {a b c : Tag} (h1 : pcm l a = some c) (h2 : pcm l b = some c) : a = b := by
  obtain ⟨d, x, e1, e2, e3, e4⟩ := pcm_some h1
  obtain ⟨d', x', f1, f2, f3, f4⟩ := pcm_some h2
  have g1 := pcm_flip_of hp e1 e2
  have g2 := pcm_flip_of hp f1 f2
  rw [← e4, ← e3] at g1
  rw [← f4, ← f3] at g2
  rw [g1] at g2
  injection g2
theorem pcm_flip_inj {l : List Pc} (hp : l.Pairwise ApU) {a b c : Tag} (h1 : pcm (l.map Pc.flip) a = some c) (h2 : pcm (l.map Pc.flip) b = some c) : a = b := by
  obtain ⟨d, x, e1, e2, e3, e4⟩ := pcm_flip_some h1
  obtain ⟨d', x', f1, f2, f3, f4⟩ := pcm_flip_some h2
  have g1 := pcm_of hp e1 e2
  have g2 := pcm_of hp f1 f2
  rw [← e4, ← e3] at g1
  rw [← f4, ← f3] at g2
  rw [g1] at g2
  injection g2

/-- blocks under other names -/
def hren (ρ : Tag → Option Tag) (h : Hp) : Hp := fun b => match h b with
  | some blk => (match ρ blk.tag with
    | some t => some (blk.withTag t)
    | none => none)
  | none => none
theorem hren_some {ρ : Tag → Option Tag} {h : Hp} {b : Nat} {blk : Blk} (hb : hren ρ h b = some blk) : ∃ x t, h b = some x ∧ ρ x.tag = some t ∧ blk = x.withTag t := by
  unfold hren at hb
  split at hb
  · rename_i x hx
    split at hb
    · rename_i t ht; injection hb with hb; exact ⟨x, t, hx, ht, hb.symm⟩
    · cases hb
  · cases hb
theorem hren_of {ρ : Tag → Option Tag} {h : Hp} {b : Nat} {x : Blk} {t : Tag} (hb : h b = some x) (ht : ρ x.tag = some t) : hren ρ h b = some (x.withTag t) := by
  unfold hren; rw [hb]; simp only [ht]
theorem hren_none {ρ : Tag → Option Tag} {h : Hp} {b : Nat} (hb : h b = none) : hren ρ h b = none := by unfold hren; rw [hb]
theorem hren_not {ρ : Tag → Option Tag} {h : Hp} {b : Nat} {x : Blk} (hb : h b = some x) (ht : ρ x.tag = none) : hren ρ h b = none := by unfold hren; rw [hb]; simp only [ht]
theorem Inv.ren {w : World} {σ : Sg} {h : Hp} (I : Inv w σ h) {ρ : Tag → Option Tag} (hi : ∀ a b c, ρ a = some c → ρ b = some c → a = b) : Inv w σ (hren ρ h) := by
  refine ⟨fun b x cs hb hc => ?_, fun b es u hb => ?_, fun b x hb j => ?_, I.sta, fun b c x y hb hc hxy => ?_⟩
  · obtain ⟨x0, t, h0, _, rfl⟩ := hren_some hb
    rw [withTag_cells] at hc
    exact I.cells b x0 cs h0 hc
  · obtain ⟨x0, t, h0, _, e⟩ := hren_some hb
    cases x0 with
    | cells _ _ => cases e
    | row _ _ => cases e
    | obj o' t0 =>
      injection e with e1 e2
      subst e1
      exact I.maps b _ _ h0
  · obtain ⟨x0, t, h0, _, _⟩ := hren_some hb
    exact I.own b x0 h0 j
  · obtain ⟨x0, t, h0, h1, rfl⟩ := hren_some hb
    obtain ⟨y0, u, g0, g1, rfl⟩ := hren_some hc
    rw [Blk.tag_withTag, Blk.tag_withTag] at hxy
    subst hxy
    exact I.inj b c x0 y0 h0 g0 (hi _ _ _ h1 g1)
theorem goes_ren {ρ : Tag → Option Tag} {h : Hp} {t t' : Tag} (hk : ∀ r, ρ (t ++ r) = some (t' ++ r)) : Goes h (hren ρ h) t t' := by
  intro b blk r hb ht
  exact hren_of hb (by rw [ht]; exact hk r)

end Go.Proofs.Bw
namespace Go.Proofs.Bw
open Go

/-- an argument's value is the parameter's -/
def LendRel (g : Nat → Option SV) (s : Nat) (v : SV) : Prop :=
  (∃ x, gp g s = some ⟨.nil 1, x⟩ ∧ coe false (.nil 1) v.T x = some v.x) ∨
  ∃ k q st n p i r C B, gp g s = some ⟨.ptr (k :: q) 0 st n p, i⟩ ∧ g k = some r ∧ hasIdx q = false ∧ hasIdx p = false ∧ tyAt r.T (q ++ [0]) = some C ∧ offAt C p = some (0, st, n) ∧
    getK r.T r.x ((q ++ [0]) ++ p) 0 some = some B ∧ B.T.size = C.size ∧ coe false (.box B.T) v.T B.x = some v.x
def RefRel (g : Nat → Option SV) (s : Nat) (v : SV) : Prop :=
  (∃ u, gp g s = some u ∧ u.T.pure = true ∧ coe false u.T v.T u.x = some v.x) ∨
  ∃ k q off st n p i r C u, gp g s = some ⟨.ptr (k :: q) off st n p, i⟩ ∧ g k = some r ∧ hasIdx q = false ∧ tyAt r.T (q ++ [0]) = some C ∧ offAt C p = some (off, st, n) ∧
    getK r.T r.x ((q ++ [0]) ++ p) i some = some u ∧ u.T.closed = true ∧ u.T.fzOk = true ∧ coe false (.cref u.T.fz) v.T (u.T.fzx u.x) = some v.x
def ArgRel (g : Nat → Option SV) (a : Arg) (v : SV) (lend : Bool) : Prop :=
  match a with
  | .v o => lend = false ∧ ∃ u, gpo g o = some u ∧ (asB u).T.pure = true ∧ coe false (asB u).T v.T (asB u).x = some v.x
  | .k s => lend = false ∧ ∃ u, g s = some u ∧ u.T.closed = true ∧ coe false u.T v.T u.x = some v.x
  | .m s => lend = true ∧ g s = some v ∧ v.T.closed = true
  | .l s => lend = true ∧ LendRel g s v
  | .r s => lend = false ∧ RefRel g s v
theorem ptrK_some {g : Nat → Option SV} {R : Type} {v : Option SV} {K : Nat → Tag → Nat → Nat → Nat → Tag → Int → SV → Ty → Option R} {r : R} (hK : ptrK g v K = some r) :
    ∃ (k : Nat) (q : Tag) (off st n : Nat) (p : Tag) (i : Int) (r0 : SV) (C : Ty), v = some ⟨.ptr (k :: q) off st n p, i⟩ ∧ g k = some r0 ∧ hasIdx q = false ∧ tyAt r0.T (q ++ [0]) = some C ∧ offAt C p = some (off, st, n) ∧ K k q off st n p i r0 C = some r := by
  unfold ptrK at hK
  split at hK
  · rename_i s q off str n p i
    split at hK
    · rename_i r0 hr0
      cases hq : hasIdx q with
      | true => rw [hq] at hK; simp at hK
      | false =>
        rw [hq] at hK
        simp only [cond_false] at hK
        split at hK
        · rename_i C hC
          split at hK
          · rename_i o s' n' ho
            obtain ⟨hcc, hK⟩ := bif_some hK
            simp only [Bool.and_eq_true] at hcc
            have e1 := Nat.eq_of_beq_eq_true hcc.1.1
            have e2 := Nat.eq_of_beq_eq_true hcc.1.2
            have e3 := Nat.eq_of_beq_eq_true hcc.2
            subst e1 e2 e3
            exact ⟨s, q, _, _, _, p, i, r0, C, rfl, hr0, hq, hC, ho, hK⟩
          · simp at hK
        · simp at hK
    · simp at hK
  · simp at hK
theorem lendK_nat {g : Nat → Option SV} {T : Ty} {s : Nat} {R : Type} (K : T.den → Option R) : lendK g T s K = (lendK g T s some).bind K := N_lendK T s R K
theorem argL {g : Nat → Option SV} {T : Ty} {s : Nat} {x : T.den} (h : lendK g T s some = some x) : ArgRel g (.l s) ⟨T, x⟩ true := by
  refine ⟨rfl, ?_⟩
  have key : ∀ v, v = gp g s → ptrK g v (fun _ q off _ _ p _ r C => bif hasIdx p || !Nat.beq off 0 then none else getK r.T r.x ((q ++ [0]) ++ p) 0 fun v => bif Nat.beq v.T.size C.size then (match coeV ⟨.box v.T, v.x⟩ T with
      | some x => some x
      | none => none) else none) = some x → LendRel g s ⟨T, x⟩ := by
    intro v hv hk
    obtain ⟨k, q, off, st, n, p, i, r0, C, e1, e2, e3, e4, e5, e6⟩ := ptrK_some hk
    obtain ⟨hc, e7⟩ := bif_none e6
    clear e6
    simp only [Bool.or_eq_false_iff, Bool.not_eq_false'] at hc
    have h0 := Nat.eq_of_beq_eq_true hc.2
    subst h0
    have e8 : getK r0.T r0.x ((q ++ [0]) ++ p) 0 (fun v => bif Nat.beq v.T.size C.size then (match coeV ⟨.box v.T, v.x⟩ T with
      | some x => some x
      | none => none) else none) = some x := e7
    clear e7
    rw [getK_nat] at e8
    cases hg : getK r0.T r0.x ((q ++ [0]) ++ p) 0 some with
    | none => rw [hg] at e8; cases e8
    | some B =>
      rw [hg] at e8
      obtain ⟨hsz, e9⟩ := bif_some (show (bif Nat.beq B.T.size C.size then (match coeV ⟨.box B.T, B.x⟩ T with
        | some x => some x
        | none => none) else none) = some x from e8)
      refine .inr ⟨k, q, st, n, p, i, r0, C, B, by rw [← hv, e1], e2, e3, hc.1, e4, e5, hg, Nat.eq_of_beq_eq_true hsz, ?_⟩
      split at e9
      · rename_i y hy
        injection e9 with e9
        subst e9
        exact hy
      · cases e9
  unfold lendK at h
  split at h
  · rename_i y hy
    refine .inl ⟨y, hy, ?_⟩
    split at h
    · rename_i z hz
      injection h with h
      subst h
      exact hz
    · cases h
  · exact key _ rfl h
theorem argV_v {g : Nat → Option SV} {T : Ty} {o : Opd} {x : T.den} (h : argV g T (.v o) = some x) : ArgRel g (.v o) ⟨T, x⟩ false := by
  simp only [argV] at h
  cases ho : gpo g o with
  | none => rw [ho] at h; cases h
  | some u =>
    rw [ho] at h
    obtain ⟨h1, h2⟩ := bif_some h
    exact ⟨rfl, u, ho, h1, h2⟩
theorem argV_k {g : Nat → Option SV} {T : Ty} {s : Nat} {x : T.den} (h : argV g T (.k s) = some x) : ArgRel g (.k s) ⟨T, x⟩ false := by
  simp only [argV] at h
  cases ho : g s with
  | none => rw [ho] at h; cases h
  | some u =>
    rw [ho] at h
    obtain ⟨h1, h2⟩ := bif_some h
    exact ⟨rfl, u, ho, h1, h2⟩
theorem argV_m {g : Nat → Option SV} {T : Ty} {s : Nat} {x : T.den} (h : argV g T (.m s) = some x) : ArgRel g (.m s) ⟨T, x⟩ true := by
  simp only [argV] at h
  cases ho : g s with
  | none => rw [ho] at h; cases h
  | some u =>
    rw [ho] at h
    obtain ⟨h1, h2⟩ := bif_some h
    split at h2
    · rename_i hb
      obtain ⟨U, y⟩ := u
      have := Ty.eq_of_beq hb
      subst this
      injection h2 with h2
      subst h2
      exact ⟨rfl, ho, h1⟩
    · cases h2
theorem argV_r {g : Nat → Option SV} {T : Ty} {s : Nat} {x : T.den} (h : argV g T (.r s) = some x) : ArgRel g (.r s) ⟨T, x⟩ false := by
  refine ⟨rfl, ?_⟩
  have h : refV g T s = some x := h
  unfold refV at h
  have key : ∀ v, v = gp g s → ptrK g v (fun _ q _ _ _ p i r _ => getK r.T r.x ((q ++ [0]) ++ p) i fun u => bif u.T.closed && u.T.fzOk then coeV ⟨.cref u.T.fz, u.T.fzx u.x⟩ T else none) = some x → RefRel g s ⟨T, x⟩ := by
    intro v hv hk
    obtain ⟨k, q, off, st, n, p, i, r0, C, e1, e2, e3, e4, e5, e6⟩ := ptrK_some hk
    have e6 : getK r0.T r0.x ((q ++ [0]) ++ p) i (fun u => bif u.T.closed && u.T.fzOk then coeV ⟨.cref u.T.fz, u.T.fzx u.x⟩ T else none) = some x := e6
    rw [getK_nat] at e6
    cases hg : getK r0.T r0.x ((q ++ [0]) ++ p) i some with
    | none => rw [hg] at e6; cases e6
    | some u =>
      rw [hg] at e6
      obtain ⟨hc, e7⟩ := bif_some (show (bif u.T.closed && u.T.fzOk then coeV ⟨.cref u.T.fz, u.T.fzx u.x⟩ T else none) = some x from e6)
      simp only [Bool.and_eq_true] at hc
      exact .inr ⟨k, q, off, st, n, p, i, r0, C, u, by rw [← hv, e1], e2, e3, e4, e5, hg, hc.1, hc.2, e7⟩
  split at h
  · rename_i y hy
    exact .inl ⟨_, hy, rfl, h⟩
  · rename_i e y hy
    obtain ⟨hp, h⟩ := bif_some h
    exact .inl ⟨_, hy, hp, h⟩
  · rename_i e y hy
    obtain ⟨hp, h⟩ := bif_some h
    exact .inl ⟨_, hy, hp, h⟩
  · exact key _ rfl h
theorem argsK_nat {g : Nat → Option SV} {ps : List (Ty × Bool)} {as : List Arg} {R : Type} (K : (chain ps).den → Option R) : argsK g ps as K = (argsK g ps as some).bind K := N_argsK ps as R K
theorem argsK_some {g : Nat → Option SV} : ∀ {ps : List (Ty × Bool)} {as : List Arg} {x : (chain ps).den} (i : Nat), argsK g ps as some = some x →
    as.length = ps.length ∧ ∀ j v, (initSt i ps x).get j = some v → ∃ k a b, j = i + k ∧ as[k]? = some a ∧ ps[k]? = some (v.T, b) ∧ ArgRel g a v b
  | [], [], x, i, h => ⟨rfl, fun j v hj => by cases hj⟩
  | [], _ :: _, x, i, h => by cases h
  | (_, false) :: _, [], x, i, h => by cases h
  | (_, true) :: _, [], x, i, h => by cases h
  | (T, true) :: ps, a :: as, x, i, h => by
    have key : ∀ (y : T.den), ArgRel g a ⟨T, y⟩ true → argsK g ps as (fun z => some ((y, z) : (chain ((T, true) :: ps)).den)) = some x → (a :: as).length = ((T, true) :: ps).length ∧
        ∀ j v, (initSt i ((T, true) :: ps) x).get j = some v → ∃ k a' b, j = i + k ∧ (a :: as)[k]? = some a' ∧ ((T, true) :: ps)[k]? = some (v.T, b) ∧ ArgRel g a' v b := by
      intro y hy h
      replace h := (argsK_nat (fun z => some ((y, z) : (chain ((T, true) :: ps)).den))).symm.trans h
      cases hr : argsK g ps as some with
      | none => rw [hr] at h; cases h
      | some z =>
        rw [hr] at h
        injection h with h
        subst h
        obtain ⟨h1, h2⟩ := argsK_some (i + 1) hr
        refine ⟨by simp [h1], fun j v hj => ?_⟩
        simp only [initSt] at hj
        rw [get_cons] at hj
        split at hj
        · rename_i e
          injection hj with hj
          subst hj e
          exact ⟨0, _, true, rfl, rfl, rfl, hy⟩
        · obtain ⟨k, a', b, e1, e2, e3, e4⟩ := h2 j v hj
          exact ⟨k + 1, a', b, by omega, e2, e3, e4⟩
    cases a with
    | v o => cases h
    | k s => cases h
    | r s => cases h
    | l s =>
      have h : lendK g T s (fun y => argsK g ps as (fun z => some ((y, z) : (chain ((T, true) :: ps)).den))) = some x := h
      replace h := (lendK_nat _).symm.trans h
      cases ha : lendK g T s some with
      | none => rw [ha] at h; cases h
      | some y => rw [ha] at h; exact key y (argL ha) h
    | m s =>
      simp only [argsK] at h
      cases ha : argV g T (.m s) with
      | none => rw [ha] at h; cases h
      | some y => rw [ha] at h; exact key y (argV_m ha) h
  | (T, false) :: ps, a :: as, x, i, h => by
    have key : ∀ (y : T.den), ArgRel g a ⟨T, y⟩ false → argsK g ps as (fun z => some ((y, z) : (chain ((T, false) :: ps)).den)) = some x → (a :: as).length = ((T, false) :: ps).length ∧
        ∀ j v, (initSt i ((T, false) :: ps) x).get j = some v → ∃ k a' b, j = i + k ∧ (a :: as)[k]? = some a' ∧ ((T, false) :: ps)[k]? = some (v.T, b) ∧ ArgRel g a' v b := by
      intro y hy h
      replace h := (argsK_nat (fun z => some ((y, z) : (chain ((T, false) :: ps)).den))).symm.trans h
      cases hr : argsK g ps as some with
      | none => rw [hr] at h; cases h
      | some z =>
        rw [hr] at h
        injection h with h
        subst h
        obtain ⟨h1, h2⟩ := argsK_some (i + 1) hr
        refine ⟨by simp [h1], fun j v hj => ?_⟩
        simp only [initSt] at hj
        rw [get_cons] at hj
        split at hj
        · rename_i e
          injection hj with hj
          subst hj e
          exact ⟨0, _, false, rfl, rfl, rfl, hy⟩
        · obtain ⟨k, a', b, e1, e2, e3, e4⟩ := h2 j v hj
          exact ⟨k + 1, a', b, by omega, e2, e3, e4⟩
    cases a with
    | m s => cases h
    | l s => cases h
    | v o =>
      simp only [argsK] at h
      cases ha : argV g T (.v o) with
      | none => rw [ha] at h; cases h
      | some y => rw [ha] at h; exact key y (argV_v ha) h
    | k s =>
      simp only [argsK] at h
      cases ha : argV g T (.k s) with
      | none => rw [ha] at h; cases h
      | some y => rw [ha] at h; exact key y (argV_k ha) h
    | r s =>
      simp only [argsK] at h
      cases ha : argV g T (.r s) with
      | none => rw [ha] at h; cases h
      | some y => rw [ha] at h; exact key y (argV_r ha) h
end Go.Proofs.Bw
namespace Go.Proofs.Bw
open Go

def spOk (sp : FSpec) : Bool := sp.ps.all (fun p => p.1.closed) && sp.r.closed
def pieces (g : Nat → Option SV) : Nat → List Arg → List Pc
  | _, [] => []
  | i, .k s :: r => ⟨[s], [i], false⟩ :: pieces g (i + 1) r
  | i, .m s :: r => ⟨[s], [i], false⟩ :: pieces g (i + 1) r
  | i, .v _ :: r => pieces g (i + 1) r
  | i, .r _ :: r => pieces g (i + 1) r
  | i, .l s :: r => match gp g s with
    | some ⟨.ptr u _ _ _ p, _⟩ => ⟨u, [i], true⟩ :: ⟨u ++ 0 :: p, [i, 0], false⟩ :: pieces g (i + 1) r
    | _ => pieces g (i + 1) r
/-- a piece belongs to an argument -/
def PcOf (g : Nat → Option SV) (i : Nat) (c : Pc) : Arg → Prop
  | .k s => c = ⟨[s], [i], false⟩
  | .m s => c = ⟨[s], [i], false⟩
  | .v _ => False
  | .r _ => False
  | .l s => ∃ u o st n p x, gp g s = some ⟨.ptr u o st n p, x⟩ ∧ (c = ⟨u, [i], true⟩ ∨ c = ⟨u ++ 0 :: p, [i, 0], false⟩)
theorem pieces_mem {g : Nat → Option SV} : ∀ {as : List Arg} {i : Nat} {c : Pc}, c ∈ pieces g i as ↔ ∃ (j : Nat) (a : Arg), as[j]? = some a ∧ PcOf g (i + j) c a
  | [], i, c => by simp [pieces]
  | a :: r, i, c => by
    have ih := pieces_mem (g := g) (as := r) (i := i + 1) (c := c)
    have hsp : (∃ (j : Nat) (b : Arg), (a :: r)[j]? = some b ∧ PcOf g (i + j) c b) ↔ PcOf g i c a ∨ c ∈ pieces g (i + 1) r := by
      rw [ih]
      constructor
      · rintro ⟨j, b, h1, h2⟩
        rcases j with _ | j
        · simp only [List.getElem?_cons_zero, Option.some.injEq] at h1
          subst h1; exact .inl h2
        · exact .inr ⟨j, b, by simpa using h1, by rw [show i + 1 + j = i + (j + 1) by omega]; exact h2⟩
      · rintro (h | ⟨j, b, h1, h2⟩)
        · exact ⟨0, a, rfl, h⟩
        · exact ⟨j + 1, b, by simpa using h1, by rw [show i + (j + 1) = i + 1 + j by omega]; exact h2⟩
    rw [hsp]
    cases a with
    | k s => simp only [pieces, List.mem_cons, PcOf]
    | m s => simp only [pieces, List.mem_cons, PcOf]
    | v o => simp only [pieces, PcOf, false_or]
    | r o => simp only [pieces, PcOf, false_or]
    | l s =>
      simp only [pieces, PcOf]
      rcases hg : gp g s with _ | ⟨T, x⟩
      · simp
      · cases T with
        | ptr u o st n p =>
          simp only [List.mem_cons]
          constructor
          · rintro (h | h | h)
            · exact .inl ⟨u, o, st, n, p, x, rfl, .inl h⟩
            · exact .inl ⟨u, o, st, n, p, x, rfl, .inr h⟩
            · exact .inr h
          · rintro (⟨u', o', st', n', p', x', e, h⟩ | h)
            · injection e with e
              injection e with e1 e2
              injection e1 with e1 _ _ _ e5
              subst e1 e5
              rcases h with h | h
              · exact .inl h
              · exact .inr (.inl h)
            · exact .inr (.inr h)
        | _ => simp

/-! roots -/
theorem headIn_false {l : List Tag} {k : Nat} (h : headIn l k = false) : ∀ t ∈ l, ∃ j q, t = j :: q ∧ j ≠ k := by
  induction l with
  | nil => intro t ht; cases ht
  | cons t r ih =>
    cases t with
    | nil => simp [headIn] at h
    | cons j q =>
      simp only [headIn, Bool.or_eq_false_iff] at h
      intro t ht
      rcases List.mem_cons.1 ht with rfl | ht
      · exact ⟨j, q, rfl, fun e => by rw [e, Nat.beq_refl] at h; exact absurd h.1 (by simp)⟩
      · exact ih h.2 t ht
theorem headIn_of {l : List Tag} {k : Nat} {q : Tag} (h : k :: q ∈ l) : headIn l k = true := by
  cases hh : headIn l k with
  | true => rfl
  | false =>
    obtain ⟨j, q', e, hne⟩ := headIn_false hh _ h
    injection e with e _
    exact (hne e.symm).elim
theorem headIn_some {l : List Tag} (hn : ∀ t ∈ l, t ≠ []) {k : Nat} (h : headIn l k = true) : ∃ q, k :: q ∈ l := by
  induction l with
  | nil => cases h
  | cons t r ih =>
    cases t with
    | nil => exact (hn [] (by simp) rfl).elim
    | cons j q =>
      simp only [headIn, Bool.or_eq_true] at h
      rcases h with h | h
      · exact ⟨q, by rw [Nat.eq_of_beq_eq_true h]; simp⟩
      · obtain ⟨q', h'⟩ := ih (fun t ht => hn t (by simp [ht])) h
        exact ⟨q', by simp [h']⟩
theorem apart_ne : ∀ {l : List Tag}, apartT l = true → ∀ t ∈ l, t ≠ []
  | [], _, t, h => by cases h
  | [] :: _, h, _, _ => by cases h
  | (k :: q) :: r, h, t, ht => by
    simp only [apartT, Bool.and_eq_true] at h
    rcases List.mem_cons.1 ht with rfl | ht
    · simp
    · exact apart_ne h.2 t ht
/-- an argument's root -/
def RootOf (g : Nat → Option SV) (k : Nat) : Arg → Prop
  | .k s => k = s
  | .m s => k = s
  | .v _ => False
  | .r _ => False
  | .l s => ∃ q o st n p x, gp g s = some ⟨.ptr (k :: q) o st n p, x⟩
theorem lent_at {g : Nat → Option SV} : ∀ {as : List Arg} {j : Nat} {a : Arg} {k : Nat}, as[j]? = some a → RootOf g k a → ∃ q, k :: q ∈ lentTags g as
  | [], j, a, k, h, _ => by simp at h
  | b :: r, j, a, k, h, hr => by
    rcases j with _ | j
    · simp only [List.getElem?_cons_zero, Option.some.injEq] at h
      subst h
      cases b with
      | k s => exact ⟨[], by have : k = s := hr; subst this; simp [lentTags]⟩
      | m s => exact ⟨[], by have : k = s := hr; subst this; simp [lentTags]⟩
      | v o => exact hr.elim
      | r o => exact hr.elim
      | l s =>
        obtain ⟨q, o, st, n, p, x, e⟩ := hr
        exact ⟨q, by simp [lentTags, e]⟩
    · obtain ⟨q, hq⟩ := lent_at (as := r) (j := j) (by simpa using h) hr
      refine ⟨q, ?_⟩
      cases b with
      | k s => simp [lentTags, hq]
      | m s => simp [lentTags, hq]
      | v o => simpa [lentTags] using hq
      | r o => simpa [lentTags] using hq
      | l s =>
        simp only [lentTags]
        split <;> simp [hq]
theorem lent_of {g : Nat → Option SV} : ∀ {as : List Arg} {k : Nat} {q : Tag}, k :: q ∈ lentTags g as → ∃ (j : Nat) (a : Arg), as[j]? = some a ∧ RootOf g k a
  | [], k, q, h => by cases h
  | b :: r, k, q, h => by
    have hrec : k :: q ∈ lentTags g r → ∃ (j : Nat) (a : Arg), (b :: r)[j]? = some a ∧ RootOf g k a := fun h =>
      let ⟨j, a, h1, h2⟩ := lent_of h; ⟨j + 1, a, by simpa using h1, h2⟩
    cases b with
    | k s =>
      rcases List.mem_cons.1 h with e | h
      · injection e with e _; exact ⟨0, _, rfl, e⟩
      · exact hrec h
    | m s =>
      rcases List.mem_cons.1 h with e | h
      · injection e with e _; exact ⟨0, _, rfl, e⟩
      · exact hrec h
    | v o => exact hrec h
    | r o => exact hrec h
    | l s =>
      simp only [lentTags] at h
      split at h
      · rename_i u o st n p x hx
        rcases List.mem_cons.1 h with e | h
        · subst e; exact ⟨0, _, rfl, q, o, st, n, p, x, hx⟩
        · exact hrec h
      · exact hrec h
      · rcases List.mem_cons.1 h with e | h
        · cases e
        · exact hrec h
theorem root_iff {g : Nat → Option SV} {as : List Arg} (ha : apartT (lentTags g as) = true) {k : Nat} : headIn (lentTags g as) k = true ↔ ∃ (j : Nat) (a : Arg), as[j]? = some a ∧ RootOf g k a :=
  ⟨fun h => let ⟨_, hq⟩ := headIn_some (apart_ne ha) h; lent_of hq, fun ⟨_, _, h1, h2⟩ => let ⟨_, hq⟩ := lent_at h1 h2; headIn_of hq⟩
/-- a piece's tags: where they begin -/
theorem pc_root {g : Nat → Option SV} {as : List Arg} (ha : apartT (lentTags g as) = true) {i j : Nat} {a : Arg} {c : Pc} (h : as[j]? = some a) (hc : PcOf g i c a) : ∃ k q q', c.u = k :: q ∧ c.v = i :: q' ∧ RootOf g k a := by
  cases a with
  | k s => have : c = ⟨[s], [i], false⟩ := hc; subst this; exact ⟨s, [], [], rfl, rfl, rfl⟩
  | m s => have : c = ⟨[s], [i], false⟩ := hc; subst this; exact ⟨s, [], [], rfl, rfl, rfl⟩
  | v o => exact hc.elim
  | r o => exact hc.elim
  | l s =>
    obtain ⟨u, o, st, n, p, x, e, hc⟩ := hc
    have hu : u ∈ lentTags g as := by
      clear ha
      induction as generalizing j with
      | nil => simp at h
      | cons b r ih =>
        rcases j with _ | j
        · simp only [List.getElem?_cons_zero, Option.some.injEq] at h
          subst h
          simp [lentTags, e]
        · have := ih (j := j) (by simpa using h)
          cases b with
          | k s => simp [lentTags, this]
          | m s => simp [lentTags, this]
          | v o => simpa [lentTags] using this
          | r o => simpa [lentTags] using this
          | l s =>
            simp only [lentTags]
            split <;> simp [this]
    have := apart_ne ha u hu
    cases u with
    | nil => exact (this rfl).elim
    | cons k q =>
      rcases hc with rfl | rfl
      · exact ⟨k, q, [], rfl, rfl, q, o, st, n, p, x, e⟩
      · exact ⟨k, q ++ 0 :: p, [0], by simp, rfl, q, o, st, n, p, x, e⟩
theorem apart_tail {g : Nat → Option SV} {a : Arg} {r : List Arg} (h : apartT (lentTags g (a :: r)) = true) : apartT (lentTags g r) = true ∧ ∀ k, RootOf g k a → headIn (lentTags g r) k = false := by
  cases a with
  | k s =>
    simp only [lentTags, apartT, Bool.and_eq_true, Bool.not_eq_true'] at h
    exact ⟨h.2, fun k e => by have : k = s := e; rw [this]; exact h.1⟩
  | m s =>
    simp only [lentTags, apartT, Bool.and_eq_true, Bool.not_eq_true'] at h
    exact ⟨h.2, fun k e => by have : k = s := e; rw [this]; exact h.1⟩
  | v o => exact ⟨h, fun k e => e.elim⟩
  | r o => exact ⟨h, fun k e => e.elim⟩
  | l s =>
    simp only [lentTags] at h
    split at h
    · rename_i u o st n p x hx
      cases u with
      | nil => cases h
      | cons k q =>
        simp only [apartT, Bool.and_eq_true, Bool.not_eq_true'] at h
        refine ⟨h.2, fun k' ⟨q', o', st', n', p', x', e⟩ => ?_⟩
        rw [hx] at e
        injection e with e
        injection e with e _
        injection e with e
        injection e with e _
        rw [← e]; exact h.1
    · rename_i x hx
      exact ⟨h, fun k' ⟨q', o', st', n', p', x', e⟩ => by rw [hx] at e; injection e with e; injection e with e _; cases e⟩
    · cases h
theorem root_once {g : Nat → Option SV} : ∀ {as : List Arg} {i j : Nat} {a b : Arg} {k : Nat}, apartT (lentTags g as) = true → i < j → as[i]? = some a → as[j]? = some b → RootOf g k a → RootOf g k b → False
  | [], i, j, a, b, k, _, _, h, _, _, _ => by simp at h
  | c :: r, i, j, a, b, k, ha, hij, hi, hj, h1, h2 => by
    obtain ⟨ha1, ha2⟩ := apart_tail ha
    rcases j with _ | j
    · omega
    · have hj : r[j]? = some b := by simpa using hj
      rcases i with _ | i
      · simp only [List.getElem?_cons_zero, Option.some.injEq] at hi
        subst hi
        have := ha2 k h1
        rw [(root_iff ha1).2 ⟨j, b, hj, h2⟩] at this; cases this
      · exact root_once ha1 (i := i) (j := j) (by omega) (by simpa using hi) hj h1 h2
theorem pieces_apart {g : Nat → Option SV} : ∀ {as : List Arg} {i : Nat}, apartT (lentTags g as) = true → (pieces g i as).Pairwise ApU ∧ (pieces g i as).Pairwise ApV
  | [], i, _ => ⟨.nil, .nil⟩
  | a :: r, i, h => by
    obtain ⟨h1, h2⟩ := apart_tail h
    obtain ⟨k1, k2⟩ := pieces_apart (i := i + 1) h1
    have cross : ∀ c, PcOf g i c a → ∀ d ∈ pieces g (i + 1) r, ApU c d ∧ ApV c d := by
      intro c hc d hd
      obtain ⟨j, b, e1, e2⟩ := pieces_mem.1 hd
      obtain ⟨k, q, q', f1, f2, f3⟩ := pc_root h (j := 0) rfl hc
      obtain ⟨k', p, p', g1, g2, g3⟩ := pc_root h1 e1 e2
      have hh := h2 k f3
      have hh' := (root_iff h1).2 ⟨j, b, e1, g3⟩
      refine ⟨fun x y _ _ e => ?_, fun x y _ _ e => ?_⟩
      · rw [f1, g1] at e
        injection e with e _
        rw [← e, hh] at hh'; cases hh'
      · rw [f2, g2] at e
        injection e with e _
        omega
    have one : ∀ c, PcOf g i c a → (pieces g i (a :: r) = c :: pieces g (i + 1) r) → (pieces g i (a :: r)).Pairwise ApU ∧ (pieces g i (a :: r)).Pairwise ApV := by
      intro c hc e
      rw [e]
      exact ⟨List.pairwise_cons.2 ⟨fun d hd => (cross c hc d hd).1, k1⟩, List.pairwise_cons.2 ⟨fun d hd => (cross c hc d hd).2, k2⟩⟩
    cases a with
    | k s => exact one ⟨[s], [i], false⟩ rfl rfl
    | m s => exact one ⟨[s], [i], false⟩ rfl rfl
    | v o => exact ⟨k1, k2⟩
    | r o => exact ⟨k1, k2⟩
    | l s =>
      cases hg : gp g s with
      | none =>
        have e : pieces g i (.l s :: r) = pieces g (i + 1) r := by simp only [pieces, hg]
        rw [e]; exact ⟨k1, k2⟩
      | some v =>
        obtain ⟨T, x⟩ := v
        cases T with
        | ptr u o st n p =>
          have e : pieces g i (.l s :: r) = ⟨u, [i], true⟩ :: ⟨u ++ 0 :: p, [i, 0], false⟩ :: pieces g (i + 1) r := by simp only [pieces, hg]
          rw [e]
          have c1 := cross ⟨u, [i], true⟩ ⟨u, o, st, n, p, x, hg, .inl rfl⟩
          have c2 := cross ⟨u ++ 0 :: p, [i, 0], false⟩ ⟨u, o, st, n, p, x, hg, .inr rfl⟩
          refine ⟨List.pairwise_cons.2 ⟨fun d hd => ?_, List.pairwise_cons.2 ⟨fun d hd => (c2 d hd).1, k1⟩⟩, List.pairwise_cons.2 ⟨fun d hd => ?_, List.pairwise_cons.2 ⟨fun d hd => (c2 d hd).2, k2⟩⟩⟩
          · rcases List.mem_cons.1 hd with rfl | hd
            · intro y z hy _ e
              rw [hy rfl] at e
              simp at e
            · exact (c1 d hd).1
          · rcases List.mem_cons.1 hd with rfl | hd
            · intro y z hy _ e
              rw [hy rfl] at e
              simp at e
            · exact (c1 d hd).2
        | _ =>
          have e : pieces g i (.l s :: r) = pieces g (i + 1) r := by simp only [pieces, hg]
          rw [e]; exact ⟨k1, k2⟩

/-! what comes back -/
def Boxed (v : SV) (u : SV) : Prop := v = ⟨.box u.T, u.x⟩ ∨ v = ⟨.opt u.T, some u.x⟩
def BackRel (g : Nat → Option SV) (F : Option SV) (us : St) (ks : List Tag) : Arg → Prop
  | .v _ => True
  | .r _ => True
  | .k s => St.get us s = none ∧ [s] ∈ ks
  | .m s => St.get us s = F ∧ [s] ∈ ks
  | .l s => (∃ x, gp g s = some ⟨.nil 1, x⟩) ∨ ∃ k q o st n p x r v u w, gp g s = some ⟨.ptr (k :: q) o st n p, x⟩ ∧ g k = some r ∧ F = some v ∧ Boxed v u ∧ setK r.T r.x ((q ++ [0]) ++ p) 0 u some = some w ∧
      St.get us k = some w ∧ (k :: q ++ [0]) ∈ ks
def Arg.lends : Arg → Bool
  | .m _ => true
  | .l _ => true
  | _ => false
theorem backK_some {g : Nat → Option SV} {r : Ty} : ∀ {ps : List (Ty × Bool)} {as : List Arg} {y : (rtOf ps r).den} {us us' : St} {ks ks' : List Tag} {z : r.den} (i : Nat), apartT (lentTags g as) = true →
    (∀ k, headIn (lentTags g as) k = true → hasS us k = false) →
    backK g ps as r y us ks (fun x us ks => some (x, us, ks)) = some (z, us', ks') →
    (finSt i ps r y).get (i + ps.length) = some ⟨r, z⟩ ∧ (∀ s, hasS us' s = (hasS us s || headIn (lentTags g as) s)) ∧ (∀ s, headIn (lentTags g as) s = false → St.get us' s = St.get us s) ∧
    (∀ t ∈ ks, t ∈ ks') ∧ as.length = ps.length ∧ ∀ (j : Nat) (a : Arg), as[j]? = some a → BackRel g ((finSt i ps r y).get (i + j)) us' ks' a ∧ (a.lends = true → i + j ∈ lentOf i ps) ∧ (i + j ∈ lentOf i ps → a.lends = true)
  | [], [], y, us, us', ks, ks', z, i, _, _, h => by
    simp only [backK, Option.some.injEq, Prod.mk.injEq] at h
    obtain ⟨rfl, rfl, rfl⟩ := h
    refine ⟨?_, fun s => by simp [lentTags, headIn], fun s _ => rfl, fun t h => h, rfl, fun j a h => by simp at h⟩
    simp only [finSt, List.length_nil, Nat.add_zero]
    rw [get_cons, if_pos rfl]
  | [], _ :: _, y, us, us', ks, ks', z, i, _, _, h => by cases h
  | (_, false) :: _, [], y, us, us', ks, ks', z, i, _, _, h => by cases h
  | (_, true) :: _, [], y, us, us', ks, ks', z, i, _, _, h => by cases h
  | (T, true) :: ps, a :: as, y, us, us', ks, ks', z, i, ha, hus, h => by
    obtain ⟨ha1, ha2⟩ := apart_tail ha
    -- one key: what is put ahead of the rest
    have key : ∀ (k : Nat) (vk : Option SV) (tk : Tag), (∀ s, headIn (lentTags g (a :: as)) s = (Nat.beq k s || headIn (lentTags g as) s)) → headIn (lentTags g as) k = false → a.lends = true →
        backK g ps as r y.2 ((k, vk) :: us) (tk :: ks) (fun x us ks => some (x, us, ks)) = some (z, us', ks') →
        (∀ us2 ks2, St.get us2 k = vk → tk ∈ ks2 → BackRel g (some ⟨T, y.1⟩) us2 ks2 a) →
        (finSt i ((T, true) :: ps) r y).get (i + ((T, true) :: ps).length) = some ⟨r, z⟩ ∧ (∀ s, hasS us' s = (hasS us s || headIn (lentTags g (a :: as)) s)) ∧ (∀ s, headIn (lentTags g (a :: as)) s = false → St.get us' s = St.get us s) ∧
        (∀ t ∈ ks, t ∈ ks') ∧ (a :: as).length = ((T, true) :: ps).length ∧ ∀ (j : Nat) (b : Arg), (a :: as)[j]? = some b → BackRel g ((finSt i ((T, true) :: ps) r y).get (i + j)) us' ks' b ∧ (b.lends = true → i + j ∈ lentOf i ((T, true) :: ps)) ∧ (i + j ∈ lentOf i ((T, true) :: ps) → b.lends = true) := by
      intro k vk tk hhd hkn hld h hbr
      have hus' : ∀ s, headIn (lentTags g as) s = true → hasS ((k, vk) :: us) s = false := by
        intro s hs
        simp only [hasS, Bool.or_eq_false_iff]
        refine ⟨?_, hus s (by rw [hhd, hs]; simp)⟩
        cases hb : Nat.beq k s with
        | false => rfl
        | true => rw [Nat.eq_of_beq_eq_true hb, hs] at hkn; cases hkn
      obtain ⟨h1, h2, h3, h4, h5, h6⟩ := backK_some (i + 1) ha1 hus' h
      have hfin : ∀ s, s ≠ i → (finSt i ((T, true) :: ps) r y).get s = (finSt (i + 1) ps r y.2).get s := fun s hs => by
        simp only [finSt]; rw [get_cons, if_neg (Ne.symm hs)]
      refine ⟨?_, fun s => ?_, fun s hs => ?_, fun t ht => h4 t (by simp [ht]), by simp [h5], fun j b hj => ?_⟩
      · rw [hfin _ (by simp)]
        rw [show i + ((T, true) :: ps).length = i + 1 + ps.length by simp; omega]
        exact h1
      · rw [h2, hhd]
        simp only [hasS]
        cases Nat.beq k s <;> cases hasS us s <;> simp
      · rw [hhd, Bool.or_eq_false_iff] at hs
        rw [h3 s hs.2, get_cons, if_neg (fun e => by rw [e, Nat.beq_refl] at hs; exact absurd hs.1 (by simp))]
      · rcases j with _ | j
        · simp only [List.getElem?_cons_zero, Option.some.injEq] at hj
          subst hj
          refine ⟨?_, fun _ => by simp [lentOf], fun _ => hld⟩
          have : (finSt i ((T, true) :: ps) r y).get (i + 0) = some ⟨T, y.1⟩ := by simp only [finSt, Nat.add_zero]; rw [get_cons, if_pos rfl]
          rw [this]
          exact hbr us' ks' (by rw [h3 k hkn, get_cons, if_pos rfl]) (h4 _ (by simp))
        · obtain ⟨k1, k2, k3⟩ := h6 j b (by simpa using hj)
          rw [hfin _ (by omega), show i + (j + 1) = i + 1 + j by omega]
          refine ⟨k1, fun hb => by simp [lentOf, k2 hb], fun hb => ?_⟩
          simp only [lentOf, List.mem_cons] at hb
          exact k3 (hb.resolve_left (by omega))
    cases a with
    | v o => cases h
    | r o => cases h
    | k s => cases h
    | m s =>
      exact key s (some ⟨T, y.1⟩) [s] (fun x => rfl) (ha2 s rfl) rfl h fun us2 ks2 e1 e2 => ⟨e1, e2⟩
    | l s =>
      rcases hg : gp g s with _ | ⟨A, x⟩
      · simp only [backK, hg] at h; cases h
      cases A with
      | ptr u o st n p =>
        rcases u with _ | ⟨k, q⟩
        · simp only [backK, hg] at h; cases h
        have hroot : RootOf g k (.l s) := ⟨q, o, st, n, p, x, hg⟩
        have hov : ovr g us k = g k := by
          have hh := hus k ((root_iff ha).2 ⟨0, _, rfl, hroot⟩)
          clear h hus key
          induction us with
          | nil => rfl
          | cons c us ih =>
            obtain ⟨s', v'⟩ := c
            simp only [hasS, Bool.or_eq_false_iff] at hh
            simp only [ovr, hh.1, cond_false]
            exact ih hh.2
        have hhd : ∀ s', headIn (lentTags g (.l s :: as)) s' = (Nat.beq k s' || headIn (lentTags g as) s') := fun s' => by simp only [lentTags, hg, headIn]
        rcases hr : g k with _ | r0
        · simp only [backK, hg, hov, hr] at h; cases h
        have fin : ∀ (e : SV), Boxed ⟨T, y.1⟩ e → setK r0.T r0.x ((q ++ [0]) ++ p) 0 e (fun w => backK g ps as r y.2 ((k, some w) :: us) ((k :: q ++ [0]) :: ks) (fun x us ks => some (x, us, ks))) = some (z, us', ks') → _ := fun e hb hk => by
          replace hk := (setK_nat _).symm.trans hk
          cases hw : setK r0.T r0.x ((q ++ [0]) ++ p) 0 e some with
          | none => rw [hw] at hk; cases hk
          | some w =>
            rw [hw] at hk
            exact key k (some w) (k :: q ++ [0]) hhd (ha2 k hroot) rfl hk fun us2 ks2 e1 e2 => .inr ⟨k, q, o, st, n, p, x, r0, _, e, w, hg, hr, rfl, hb, hw, e1, e2⟩
        cases T with
        | box e =>
          simp only [backK, hg, hov, hr] at h
          exact fin ⟨e, y.1⟩ (.inl rfl) h
        | opt e =>
          simp only [backK, hg, hov, hr] at h
          obtain ⟨y1, y2⟩ := y
          have h : Option.bind (α := e.den) y1 (fun y => setK r0.T r0.x ((q ++ [0]) ++ p) 0 ⟨e, y⟩ fun w => backK g ps as r y2 ((k, some w) :: us) ((k :: q ++ [0]) :: ks) (fun x us ks => some (x, us, ks))) = some (z, us', ks') := h
          have y1' : ∃ o : Option e.den, o = y1 := ⟨y1, rfl⟩
          obtain ⟨o1, ho1⟩ := y1'
          cases o1 with
          | none => rw [← ho1] at h; cases h
          | some y0 =>
            rw [← ho1] at h
            exact fin ⟨e, y0⟩ (.inr (by rw [← ho1])) h
        | _ => simp only [backK, hg, hov, hr] at h; cases h
      | nil c =>
        rcases c with _ | _ | c
        · simp only [backK, hg] at h; cases h
        · have h : backK g ps as r y.2 us ks (fun x us ks => some (x, us, ks)) = some (z, us', ks') := by simpa only [backK, hg] using h
          have hlt : lentTags g (.l s :: as) = lentTags g as := by simp only [lentTags, hg]
          rw [hlt] at hus ⊢
          obtain ⟨h1, h2, h3, h4, h5, h6⟩ := backK_some (i + 1) ha1 hus h
          have hfin : ∀ s, s ≠ i → (finSt i ((T, true) :: ps) r y).get s = (finSt (i + 1) ps r y.2).get s := fun s hs => by
            simp only [finSt]; rw [get_cons, if_neg (Ne.symm hs)]
          refine ⟨?_, h2, h3, h4, by simp [h5], fun j b hj => ?_⟩
          · rw [hfin _ (by simp)]
            rw [show i + ((T, true) :: ps).length = i + 1 + ps.length by simp; omega]
            exact h1
          · rcases j with _ | j
            · simp only [List.getElem?_cons_zero, Option.some.injEq] at hj
              subst hj
              exact ⟨.inl ⟨x, hg⟩, fun _ => by simp [lentOf], fun _ => rfl⟩
            · obtain ⟨k1, k2, k3⟩ := h6 j b (by simpa using hj)
              rw [hfin _ (by omega), show i + (j + 1) = i + 1 + j by omega]
              refine ⟨k1, fun hb => by simp [lentOf, k2 hb], fun hb => ?_⟩
              simp only [lentOf, List.mem_cons] at hb
              exact k3 (hb.resolve_left (by omega))
        · simp only [backK, hg] at h; cases h
      | _ => simp only [backK, hg] at h; cases h
  | (T, false) :: ps, a :: as, y, us, us', ks, ks', z, i, ha, hus, h => by
    obtain ⟨ha1, ha2⟩ := apart_tail ha
    have hge : ∀ j, i + j ∈ lentOf i ((T, false) :: ps) → 1 ≤ j := fun j hj => by
      have := (lentOf_lt (i := i + 1) (ps := ps) hj).1; omega
    have fin : ∀ us1 ks1, (∀ s, headIn (lentTags g as) s = true → hasS us1 s = false) → backK g ps as r y us1 ks1 (fun x us ks => some (x, us, ks)) = some (z, us', ks') →
        ((∀ s, (hasS us1 s || headIn (lentTags g as) s) = (hasS us s || headIn (lentTags g (a :: as)) s)) ∧ (∀ s, headIn (lentTags g (a :: as)) s = false → headIn (lentTags g as) s = false ∧ St.get us1 s = St.get us s) ∧ (∀ t ∈ ks, t ∈ ks1) ∧ a.lends = false ∧
          ∀ us2 ks2, (∀ s, headIn (lentTags g as) s = false → St.get us2 s = St.get us1 s) → (∀ t ∈ ks1, t ∈ ks2) → BackRel g none us2 ks2 a) →
        (finSt i ((T, false) :: ps) r y).get (i + ((T, false) :: ps).length) = some ⟨r, z⟩ ∧ (∀ s, hasS us' s = (hasS us s || headIn (lentTags g (a :: as)) s)) ∧ (∀ s, headIn (lentTags g (a :: as)) s = false → St.get us' s = St.get us s) ∧
        (∀ t ∈ ks, t ∈ ks') ∧ (a :: as).length = ((T, false) :: ps).length ∧ ∀ (j : Nat) (b : Arg), (a :: as)[j]? = some b → BackRel g ((finSt i ((T, false) :: ps) r y).get (i + j)) us' ks' b ∧ (b.lends = true → i + j ∈ lentOf i ((T, false) :: ps)) ∧ (i + j ∈ lentOf i ((T, false) :: ps) → b.lends = true) := by
      rintro us1 ks1 hus1 h ⟨f1, f2, f3, f4, f5⟩
      obtain ⟨h1, h2, h3, h4, h5, h6⟩ := backK_some (i + 1) ha1 hus1 h
      refine ⟨?_, fun s => by rw [h2, f1], fun s hs => ?_, fun t ht => h4 t (f3 t ht), by simp [h5], fun j b hj => ?_⟩
      · rw [show i + ((T, false) :: ps).length = i + 1 + ps.length by simp; omega]
        exact h1
      · obtain ⟨e1, e2⟩ := f2 s hs
        rw [h3 s e1, e2]
      · rcases j with _ | j
        · simp only [List.getElem?_cons_zero, Option.some.injEq] at hj
          subst hj
          have hn : (finSt i ((T, false) :: ps) r y).get (i + 0) = none := by
            have e : (finSt i ((T, false) :: ps) r y) = finSt (i + 1) ps r y := rfl
            rw [e]
            exact finSt_none (fun hh => by have := (lentOf_lt hh).1; omega) (by omega)
          refine ⟨?_, fun hb => (by rw [f4] at hb; cases hb), fun hb => by have := hge 0 hb; omega⟩
          rw [hn]
          exact f5 us' ks' h3 h4
        · obtain ⟨k1, k2, k3⟩ := h6 j b (by simpa using hj)
          rw [show i + (j + 1) = i + 1 + j by omega]
          exact ⟨k1, k2, k3⟩
    cases a with
    | m s => cases h
    | l s => cases h
    | r o => exact fin us ks hus h ⟨fun s => rfl, fun s hs => ⟨hs, rfl⟩, fun t ht => ht, rfl, fun _ _ _ _ => trivial⟩
    | v o => exact fin us ks hus h ⟨fun s => rfl, fun s hs => ⟨hs, rfl⟩, fun t ht => ht, rfl, fun _ _ _ _ => trivial⟩
    | k s =>
      have hs := ha2 s rfl
      refine fin ((s, none) :: us) ([s] :: ks) (fun x hx => ?_) h ⟨fun x => ?_, fun x hx => ?_, fun t ht => by simp [ht], rfl, fun us2 ks2 e1 e2 => ⟨by rw [e1 s hs, get_cons, if_pos rfl], e2 _ (by simp)⟩⟩
      · simp only [hasS, Bool.or_eq_false_iff]
        refine ⟨?_, hus x (by simp only [lentTags, headIn, hx, Bool.or_true])⟩
        cases hb : Nat.beq s x with
        | false => rfl
        | true => rw [Nat.eq_of_beq_eq_true hb, hx] at hs; cases hs
      · simp only [hasS, lentTags, headIn]
        cases Nat.beq s x <;> cases hasS us x <;> simp
      · simp only [lentTags, headIn, Bool.or_eq_false_iff] at hx
        refine ⟨hx.2, ?_⟩
        rw [get_cons, if_neg (fun e => by rw [e, Nat.beq_refl] at hx; exact absurd hx.1 (by simp))]
end Go.Proofs.Bw
namespace Go.Proofs.Bw
open Go

def argOk : List Arg → List Operand → Bool
  | [], [] => true
  | .v o :: r, x :: s => opdOk o x && argOk r s
  | .k t :: r, x :: s => opdOk (.t t) x && argOk r s
  | .m t :: r, x :: s => opdOk (.t t) x && argOk r s
  | .l t :: r, x :: s => opdOk (.t t) x && argOk r s
  | .r t :: r, x :: s => opdOk (.t t) x && argOk r s
  | _, _ => false
theorem argOk_len : ∀ {as : List Arg} {xs : List Operand}, argOk as xs = true → xs.length = as.length
  | [], [], _ => rfl
  | [], _ :: _, h => by cases h
  | .v _ :: _, [], h => by cases h
  | .k _ :: _, [], h => by cases h
  | .m _ :: _, [], h => by cases h
  | .l _ :: _, [], h => by cases h
  | .r _ :: _, [], h => by cases h
  | .v _ :: r, x :: s, h => by simp only [argOk, Bool.and_eq_true] at h; simp [argOk_len h.2]
  | .k _ :: r, x :: s, h => by simp only [argOk, Bool.and_eq_true] at h; simp [argOk_len h.2]
  | .m _ :: r, x :: s, h => by simp only [argOk, Bool.and_eq_true] at h; simp [argOk_len h.2]
  | .l _ :: r, x :: s, h => by simp only [argOk, Bool.and_eq_true] at h; simp [argOk_len h.2]
  | .r _ :: r, x :: s, h => by simp only [argOk, Bool.and_eq_true] at h; simp [argOk_len h.2]
theorem argOk_at : ∀ {as : List Arg} {xs : List Operand} {k : Nat} {ar : Arg}, argOk as xs = true → as[k]? = some ar → ∃ x, xs[k]? = some x ∧ (∀ o, ar = .v o → opdOk o x = true) ∧ (∀ s, (ar = .k s ∨ ar = .m s ∨ ar = .l s ∨ ar = .r s) → opdOk (.t s) x = true)
  | [], _, k, ar, _, h => by simp at h
  | a :: r, [], k, ar, h, _ => by cases a <;> cases h
  | a :: r, x :: s, k, ar, h, hk => by
    have hr : argOk r s = true := by cases a <;> simp only [argOk, Bool.and_eq_true] at h <;> exact h.2
    rcases k with _ | k
    · simp only [List.getElem?_cons_zero, Option.some.injEq] at hk
      subst hk
      refine ⟨x, rfl, fun o e => ?_, fun t e => ?_⟩
      · subst e; simp only [argOk, Bool.and_eq_true] at h; exact h.1
      · rcases e with e | e | e | e <;> subst e <;> simp only [argOk, Bool.and_eq_true] at h <;> exact h.1
    · have hk : r[k]? = some ar := by simpa using hk
      exact argOk_at (xs := s) hr hk

theorem exec_call {P : Program} {a : Act} {w : World} {o : Oper} {f : FuncId} {xs : Array Operand} {ts : Array TypeId} (he : Enters P f) (hop : o.op = .call { callee := .value (.func f), args := xs, argTypes := ts }) :
    (execOp a.eval o).run P w = .ok (.enter f (xs.map a.eval)) w := by
  obtain ⟨fn, h1, h2, h3⟩ := he
  have : execOp a.eval o = callFunc f (#[] ++ xs.map a.eval ++ #[]) := by
    unfold execOp
    rw [hop]
    rfl
  rw [this]
  unfold callFunc
  have h3' : ¬ (fn.name = "runtime.NumGoroutine") := by simpa using h3
  have h2' : ¬ (fn.body = none) := fun e => by rw [e] at h2; cases h2
  simp [h1, h2', h3']
theorem exec_callV {P : Program} {a : Act} {w w' : World} {o : Oper} {f : FuncId} {xs : Array Operand} {ts : Array TypeId} {v : Value} (hv : (callFunc f (xs.map a.eval)).run P w = .ok (.value v) w') (hop : o.op = .call { callee := .value (.func f), args := xs, argTypes := ts }) :
    (execOp a.eval o).run P w = .ok (.value v) w' := by
  have : execOp a.eval o = callFunc f (#[] ++ xs.map a.eval ++ #[]) := by
    unfold execOp
    rw [hop]
    rfl
  rw [this]
  simpa using hv
end Go.Proofs.Bw
namespace Go.Proofs.Bw
open Go

section
variable {σ : Sg} {h : Hp} {st : St} {w : World}
/-- the blocks that stay with the caller, as cells that stay as they are -/
def lendSg (on : Bool) (σ : Sg) (h h0 : Hp) : Sg := fun b j => bif on then (match h b, h0 b with
  | some blk, none => (blk.cells?.getD [])[j]?
  | _, _ => σ b j) else σ b j
theorem lendSg_old {on : Bool} {h0 : Hp} {b : Nat} (hb : h b = none) (j : Nat) : lendSg on σ h h0 b j = σ b j := by
  unfold lendSg; cases on <;> simp [hb]
theorem lendSg_given {on : Bool} {h0 : Hp} {b : Nat} {x : Blk} (hb : h0 b = some x) (j : Nat) : lendSg on σ h h0 b j = σ b j := by
  unfold lendSg
  cases on
  · rfl
  · simp only [cond_true, hb]
    cases h b <;> rfl
theorem lendSg_le {on : Bool} {h0 : Hp} (I : Inv w σ h) : σ.le (lendSg on σ h h0) := by
  intro b j v hb
  cases hx : h b with
  | none => rw [lendSg_old hx]; exact hb
  | some x => rw [I.own b x hx j] at hb; cases hb
theorem lendSg_inv {on : Bool} {ρ : Tag → Option Tag} (I : Inv w σ h) (hi : ∀ a b c, ρ a = some c → ρ b = some c → a = b) : Inv w (lendSg on σ h (hren ρ h)) (hren ρ h) := by
  have J := I.ren hi
  refine ⟨J.cells, J.maps, fun b x hb j => ?_, fun b j v hb => ?_, J.inj⟩
  · rw [lendSg_given hb]; exact J.own b x hb j
  · cases hx : h b with
    | none => rw [lendSg_old hx] at hb; exact I.sta b j v hb
    | some x =>
      cases hy : hren ρ h b with
      | some y => rw [lendSg_given hy, I.own b x hx j] at hb; cases hb
      | none =>
        unfold lendSg at hb
        cases on with
        | false => simp only [cond_false] at hb; rw [I.own b x hx j] at hb; cases hb
        | true =>
          simp only [cond_true, hx, hy] at hb
          cases hc : x.cells? with
          | none => rw [hc] at hb; simp at hb
          | some cs =>
            rw [hc] at hb
            rw [cell_at I hx hc]
            exact hb

theorem asB_rel {ρ : Tag → Option Tag} {on : Bool} (I : Inv w σ h) {u : SV} {val : Value} {t t' : Tag} (hr : VRel σ h u.T u.x val t) (hp : (asB u).T.pure = true)
    (hv : ∀ z q e y, u = ⟨.slV z q e, y⟩ → on = true ∧ ρ q = none) : VRel (lendSg on σ h (hren ρ h)) (hren ρ h) (asB u).T (asB u).x val t' := by
  obtain ⟨T, y⟩ := u
  have hσ := lendSg_le (on := on) (h0 := hren ρ h) I
  cases T <;> first | exact VRel.pure hσ hp hr | skip
  rename_i z q e
  obtain ⟨hon, hk⟩ := hv z q e y rfl
  subst hon
  obtain ⟨c, hw, hr⟩ := hr
  refine ⟨c, hw, ?_⟩
  simp only [asB, Rel] at hr ⊢
  have hp : e.pure = true := hp
  obtain ⟨ad, len, cap, e1, e2, e3, e4⟩ := hr
  refine ⟨ad, len, cap, e1, e2, e3, fun hh => (by cases hh), ?_⟩
  rcases e4 with e4 | ⟨b, off, ch, f1, f2, f3, f4⟩
  · obtain ⟨y, rfl⟩ : ∃ l : List e.den, l = y := ⟨y, rfl⟩
    have : y = [] := List.eq_nil_of_length_eq_zero (by rw [← e3]; exact e4)
    subst this
    exact ⟨[], rfl, fun hh => (hh rfl).elim⟩
  · refine ⟨_, f4.imp fun _ _ hh => Rel.pure hσ hp hh, fun _ => ⟨b, off, f1, fun j v hj => ?_⟩⟩
    have hn : hren ρ h b = none := hren_not f2 hk
    unfold lendSg
    simp only [cond_true, f2, hn, Blk.cells?, Option.getD_some]
    rw [List.getElem?_take] at hj
    split at hj
    · rw [List.getElem?_drop] at hj; exact hj
    · cases hj
theorem VRel.coe {T U : Ty} {x : T.den} {y : U.den} {v : Value} {t : Tag} (hc : Bw.coe false T U x = some y) (r : VRel σ h T x v t) : VRel σ h U y v t := by
  obtain ⟨c, hw, hr⟩ := r
  exact ⟨c, by rw [coe_agg hc]; exact hw, coe_rel hc hr⟩
end
theorem fz_pure : ∀ {T : Ty}, T.fzOk = true → T.fz.pure = true := by
  intro T
  induction T with
  | pair a b iha ihb => intro h; simp only [Ty.fzOk, Bool.and_eq_true] at h; simp only [Ty.fz, Ty.pure, iha h.1, ihb h.2, Bool.and_self]
  | slX z e ih => intro h; exact h
  | box e ih => intro h; exact ih h
  | opt e ih => intro h; exact ih h
  | _ => intro h; exact h
theorem frz_rel {σ : Sg} {h : Hp} {w : World} {ρ : Tag → Option Tag} (I : Inv w σ h) {k : Nat} (hn : ∀ b blk q, h b = some blk → blk.tag = k :: q → hren ρ h b = none) :
    ∀ {T : Ty} {x : T.den} {cs : List Value} {q t' : Tag}, T.fzOk = true → Rel σ h T false x cs (k :: q) → Rel (lendSg true σ h (hren ρ h)) (hren ρ h) T.fz false (T.fzx x) cs t' := by
  have hσ := lendSg_le (on := true) (h0 := hren ρ h) I
  have hcell : ∀ b blk q cs, h b = some blk → blk.tag = k :: q → blk.cells? = some cs → ∀ (j : Nat), lendSg true σ h (hren ρ h) b j = cs[j]? := fun b blk q cs hb ht hc j => by
    unfold lendSg
    simp only [cond_true, hb, hn b blk q hb ht, hc, Option.getD_some]
  intro T
  induction T with
  | pair a b iha ihb =>
    intro x cs q t' hf hr
    simp only [Ty.fzOk, Bool.and_eq_true] at hf
    simp only [Rel] at hr
    obtain ⟨c, d, e1, e2, e3⟩ := hr
    simp only [Ty.fz, Rel]
    exact ⟨c, d, e1, iha (t' := t' ++ [1]) hf.1 e2, ihb (t' := t' ++ [2]) hf.2 e3⟩
  | slX z e ih =>
    intro x cs q t' hf hr
    have hf : e.pure = true := hf
    simp only [Rel] at hr
    obtain ⟨ad, len, cap, e1, e2, e3, e4⟩ := hr
    simp only [Ty.fz, Rel]
    refine ⟨ad, len, cap, e1, e2, e3, fun hh => (by cases hh), ?_⟩
    rcases e4 with e4 | ⟨b, ch, f1, f2, f3, f4⟩
    · obtain ⟨y, rfl⟩ : ∃ l : List e.den, l = x := ⟨x, rfl⟩
      have : y = [] := List.eq_nil_of_length_eq_zero (by rw [← e3]; have := e2.1; omega)
      subst this
      exact ⟨[], rfl, fun hh => (hh rfl).elim⟩
    · refine ⟨_, f4.imp fun _ _ hh => Rel.pure hσ hf hh, fun _ => ⟨b, 0, f1, fun j v hj => ?_⟩⟩
      rw [Nat.zero_add, hcell b _ _ ch f2 rfl rfl]
      rw [List.getElem?_take] at hj
      split at hj
      · exact hj
      · cases hj
  | box e ih =>
    intro x cs q t' hf hr
    simp only [Rel] at hr
    obtain ⟨b, ch, e1, e2, e3⟩ := hr
    have := ih (x := x) (t' := t' ++ [3]) hf e3
    simp only [Ty.fz, Rel]
    exact ⟨b, 0, e1, ch, this, fun j v hj => by rw [Nat.zero_add, hcell b _ _ ch e2 rfl rfl]; exact hj⟩
  | opt e ih =>
    intro x cs q t' hf hr
    obtain ⟨y, rfl⟩ : ∃ y : Option e.den, y = x := ⟨x, rfl⟩
    cases y with
    | none =>
      simp only [Rel] at hr
      simp only [Ty.fz, Ty.fzx, optmap, Rel]
      exact hr
    | some y =>
      simp only [Rel] at hr
      obtain ⟨b, ch, e1, e2, e3⟩ := hr
      have := ih (x := y) (t' := t' ++ [3]) hf e3
      simp only [Ty.fz, Ty.fzx, optmap, Rel]
      exact ⟨b, 0, e1, ch, this, fun j v hj => by rw [Nat.zero_add, hcell b _ _ ch e2 rfl rfl]; exact hj⟩
  | _ => intro x cs q t' hf hr; first | exact Rel.pure hσ hf hr | cases hf
theorem viewsOk_r {g : Nat → Option SV} {gs : List Tag} : ∀ {as : List Arg}, viewsOk g gs as = true → ∀ s, Arg.r s ∈ as → ∀ q o st n p y, gp g s = some ⟨.ptr q o st n p, y⟩ → ∃ k q', q = k :: q' ∧ headIn gs k = false
  | [], _, o, h, _, _, _, _, _, _, _ => by cases h
  | a :: r, hv, s, hm, q, o, st, n, p, y, ho => by
    rcases List.mem_cons.1 hm with h1 | h1
    · subst h1
      simp only [viewsOk, Bool.and_eq_true] at hv
      rw [ho] at hv
      rcases q with _ | ⟨k, q⟩
      · simp at hv
      · exact ⟨k, q, rfl, by simpa using hv.1⟩
    · have : viewsOk g gs r = true := by cases a <;> simp only [viewsOk, Bool.and_eq_true] at hv <;> first | exact hv.2 | exact hv
      exact viewsOk_r this s h1 q o st n p y ho
theorem shares_r {g : Nat → Option SV} : ∀ {as : List Arg} (s : Nat), Arg.r s ∈ as → ∀ q o st n p y, gp g s = some ⟨.ptr q o st n p, y⟩ → shares g as = true
  | [], o, h, _, _, _, _, _, _, _ => by cases h
  | a :: r, s, hm, q, o, st, n, p, y, ho => by
    rcases List.mem_cons.1 hm with h1 | h1
    · subst h1; simp only [shares, ho]
    · have := shares_r (as := r) s h1 q o st n p y ho
      cases a with
      | v o' =>
        simp only [shares]
        split
        · rfl
        · exact this
      | r o' =>
        simp only [shares]
        split
        · rfl
        · exact this
      | _ => exact this
theorem viewsOk_at {g : Nat → Option SV} {gs : List Tag} : ∀ {as : List Arg}, viewsOk g gs as = true → ∀ o, Arg.v o ∈ as → ∀ z q e y, gpo g o = some ⟨.slV z q e, y⟩ → ∃ k q', q = k :: q' ∧ headIn gs k = false
  | [], _, o, h, _, _, _, _, _ => by cases h
  | a :: r, hv, o, hm, z, q, e, y, ho => by
    rcases List.mem_cons.1 hm with h1 | h1
    · subst h1
      simp only [viewsOk, Bool.and_eq_true] at hv
      rw [ho] at hv
      rcases q with _ | ⟨k, q⟩
      · simp at hv
      · exact ⟨k, q, rfl, by simpa using hv.1⟩
    · have : viewsOk g gs r = true := by cases a <;> simp only [viewsOk, Bool.and_eq_true] at hv <;> first | exact hv.2 | exact hv
      exact viewsOk_at this o h1 z q e y ho
theorem shares_at {g : Nat → Option SV} : ∀ {as : List Arg} (o : Opd), Arg.v o ∈ as → ∀ z q e y, gpo g o = some ⟨.slV z q e, y⟩ → shares g as = true
  | [], o, h, _, _, _, _, _ => by cases h
  | a :: r, o, hm, z, q, e, y, ho => by
    rcases List.mem_cons.1 hm with h1 | h1
    · subst h1; simp only [shares, ho]
    · have := shares_at (as := r) o h1 z q e y ho
      cases a with
      | v o' =>
        simp only [shares]
        split
        · rfl
        · exact this
      | r o' =>
        simp only [shares]
        split
        · rfl
        · exact this
      | _ => exact this


section
variable {σ : Sg} {h : Hp} {st : St} {w : World} {a : Act}
/-- a place that is lent, as the callee sees it -/
theorem lend_rel {σ' : Sg} {h' : Hp} (S : SRel σ h st a.tmps w) {s i : Nat} {v : SV} (hl : LendRel st.get s v) (hσ : σ.le σ')
    (hg : ∀ k q o s' n p x, gp st.get s = some ⟨.ptr (k :: q) o s' n p, x⟩ → (∀ b blk, h b = some blk → blk.tag = k :: q → h' b = some (blk.withTag [i])) ∧ Goes h h' (k :: q ++ 0 :: p) [i, 0]) :
    VRel σ' h' v.T v.x (a.tmps.getD s undef) [i] := by
  rcases hl with ⟨x, hx, hc⟩ | ⟨k, q, s', n, p, x, r, C, B, hx, hr, hq, hp, hC, ho, hB, hsz, hc⟩
  · obtain ⟨h1, _⟩ := gp_rel S hx
    exact VRel.coe hc (VRel.pure hσ rfl h1)
  · obtain ⟨h1, _⟩ := gp_rel S hx
    obtain ⟨g1, g2⟩ := hg _ _ _ _ _ _ _ hx
    obtain ⟨e1, e2⟩ := offAt_noIdx hp ho
    subst e1 e2
    obtain ⟨c, hw, hr1⟩ := h1
    simp only [Rel] at hr1
    obtain ⟨b, ch, f1, f2, f3⟩ := hr1
    obtain ⟨_, _, cs, y, f, k1, k2, k3, k4, k5, k6, k7⟩ := root_use S hr hq hC f2
    rw [k4] at hB
    obtain ⟨v', pre, c', post, m1, m2, m3, m4, m5⟩ := getIn hB k3 ho
    injection m1 with m1
    subst m1
    have hl1 := Rel.length k3
    have hl2 := Rel.length m4
    rw [m2, List.length_append, List.length_append, hl2, hsz] at hl1
    have hpre : pre = [] := List.eq_nil_of_length_eq_zero (by omega)
    have hpost : post = [] := List.eq_nil_of_length_eq_zero (by omega)
    subst hpre hpost
    simp only [List.nil_append, List.append_nil] at m2
    subst m2
    refine VRel.coe hc ⟨c, hw, ?_⟩
    simp only [Rel]
    refine ⟨b, ch, by rw [f1]; simp, g1 b _ f2 rfl, ?_⟩
    have m4' : Rel σ h v'.T false v'.x ch (k :: q ++ 0 :: p) := by
      have e : k :: q ++ [0] ++ p = k :: q ++ 0 :: p := by simp
      rw [← e]; exact m4
    exact Rel.move hσ (m5 k2) g2 m4'

/-- the callee's first state -/
theorem callee_rel (S : SRel σ h st a.tmps w) {sp : FSpec} (hok : spOk sp = true) {as : List Arg} {xs : Array Operand} {x : (chain sp.ps).den} (ha : apartT (lentTags st.get as) = true)
    (hargs : argOk as xs.toList = true) (hx : argsK st.get sp.ps as some = some x) (hv : viewsOk st.get (lentTags st.get as) as = true) :
    (xs.map a.eval).size = sp.ps.length ∧ SRel (lendSg (shares st.get as) σ h (hren (pcm (pieces st.get 0 as)) h)) (hren (pcm (pieces st.get 0 as)) h) (initSt 0 sp.ps x) (xs.map a.eval) w := by
  obtain ⟨hlen, hat⟩ := argsK_some 0 hx
  have hxl := argOk_len hargs
  obtain ⟨hpu, hpv⟩ := pieces_apart (i := 0) ha
  have hinj : ∀ p q c, pcm (pieces st.get 0 as) p = some c → pcm (pieces st.get 0 as) q = some c → p = q := fun p q c h1 h2 => pcm_inj hpv h1 h2
  have hsize : (xs.map a.eval).size = sp.ps.length := by rw [Array.size_map, ← hlen, ← hxl]; simp
  simp only [spOk, Bool.and_eq_true, List.all_eq_true] at hok
  have hclos : ∀ j v, (initSt 0 sp.ps x).get j = some v → v.T.closed = true := fun j v hj => by
    obtain ⟨k, ar, b, _, _, hp, _⟩ := hat j v hj
    exact hok.1 _ (List.mem_of_getElem? hp)
  have hσ := lendSg_le (on := shares st.get as) (h0 := hren (pcm (pieces st.get 0 as)) h) S.inv
  refine ⟨hsize, lendSg_inv S.inv hinj, fun j v hj => ?_, fun j v hj => closed_okTop (hclos j v hj), fun j v u hj hu => (by rw [closed_looks (hclos j v hj)] at hu; cases hu), fun b blk hb => ?_⟩
  · obtain ⟨k, ar, b, e, hk, hp, hr⟩ := hat j v hj
    rw [Nat.zero_add] at e
    subst e
    obtain ⟨xo, hxo, h1, h2⟩ := argOk_at hargs hk
    have hjl : j < xs.size := by
      have := (List.getElem?_eq_some_iff.1 hxo).1
      simpa using this
    have hget : (xs.map a.eval).getD j undef = a.eval xo := by
      have hxo' : xs[j]? = some xo := by rw [← Array.getElem?_toList]; exact hxo
      simp [Array.getD_eq_getD_getElem?, hxo']
    rw [hget]
    refine ⟨by simpa using hjl, ?_⟩
    have hgo : ∀ s, (ar = .k s ∨ ar = .m s) → Goes h (hren (pcm (pieces st.get 0 as)) h) [s] [j] := fun s hs => goes_ren fun r => by
      have hm : (⟨[s], [j], false⟩ : Pc) ∈ pieces st.get 0 as := pieces_mem.2 ⟨j, ar, hk, by rw [Nat.zero_add]; rcases hs with rfl | rfl <;> rfl⟩
      exact pcm_of hpu hm (fun e => by cases e)
    cases ar with
    | l s =>
      rw [opdT_eval (a := a) (h2 s (.inr (.inr (.inl rfl))))]
      refine lend_rel S hr.2 hσ fun k q o s' n p x' hgp => ⟨fun b blk hb ht => ?_, ?_⟩
      · have hm : (⟨k :: q, [j], true⟩ : Pc) ∈ pieces st.get 0 as := pieces_mem.2 ⟨j, _, hk, by rw [Nat.zero_add]; exact ⟨_, _, _, _, _, _, hgp, .inl rfl⟩⟩
        have := pcm_of (x := []) hpu hm (fun _ => rfl)
        exact hren_of hb (by rw [ht]; simpa using this)
      · have hm : (⟨k :: q ++ 0 :: p, [j, 0], false⟩ : Pc) ∈ pieces st.get 0 as := pieces_mem.2 ⟨j, _, hk, by rw [Nat.zero_add]; exact ⟨_, _, _, _, _, _, hgp, .inr rfl⟩⟩
        exact goes_ren fun r => pcm_of hpu hm (fun e => by cases e)
    | v o =>
      obtain ⟨_, u, hu, hp', hc⟩ := hr
      obtain ⟨tg, hrel, _⟩ := gpo_rel S (h1 o rfl) hu
      refine VRel.coe hc (asB_rel S.inv hrel hp' (fun z q e y e1 => ?_))
      subst e1
      have hm := List.mem_of_getElem? hk
      obtain ⟨k, q', e1, e2⟩ := viewsOk_at hv o hm z q e y hu
      refine ⟨shares_at o hm z q e y hu, ?_⟩
      cases hpc : pcm (pieces st.get 0 as) q with
      | none => rfl
      | some t' =>
        obtain ⟨c, y', f1, _, f2, _⟩ := pcm_some hpc
        obtain ⟨j', a', g1, g2⟩ := pieces_mem.1 f1
        obtain ⟨k2, q2, q3, m1, _, m3⟩ := pc_root ha g1 g2
        rw [e1, m1] at f2
        injection f2 with f2 _
        subst f2
        rw [(root_iff ha).2 ⟨j', a', g1, m3⟩] at e2; cases e2
    | r s =>
      rw [opdT_eval (a := a) (h2 s (.inr (.inr (.inr rfl))))]
      have hm := List.mem_of_getElem? hk
      rcases hr.2 with ⟨u, hu, hp', hc⟩ | ⟨k, q, off, st', n, p, i, r0, C, u, hu, hr0, hq, hC, ho, hg, hcl, hfz, hc⟩
      · exact VRel.coe hc (VRel.pure hσ hp' (gp_rel S hu).1)
      · obtain ⟨k', q', e1, e2⟩ := viewsOk_r hv s hm _ _ _ _ _ _ hu
        injection e1 with e1 e1'
        subst e1 e1'
        obtain ⟨i, rfl⟩ : ∃ z : Int, z = i := ⟨i, rfl⟩
        have hon := shares_r s hm _ _ _ _ _ _ hu
        rw [hon]
        have hnone : ∀ b blk q2, h b = some blk → blk.tag = k :: q2 → hren (pcm (pieces st.get 0 as)) h b = none := fun b blk q2 hb ht => by
          refine hren_not hb ?_
          cases hpc : pcm (pieces st.get 0 as) blk.tag with
          | none => rfl
          | some t' =>
            obtain ⟨c, y', f1, _, f2, _⟩ := pcm_some hpc
            obtain ⟨j', a', g1, g2⟩ := pieces_mem.1 f1
            obtain ⟨k2, q2, q3, m1, _, m3⟩ := pc_root ha g1 g2
            rw [ht, m1] at f2
            injection f2 with f2 _
            subst f2
            rw [(root_iff ha).2 ⟨j', a', g1, m3⟩] at e2; cases e2
        obtain ⟨⟨cc, hw, hr1⟩, _⟩ := gp_rel S hu
        simp only [Rel] at hr1
        obtain ⟨b, ch, f1, f2, f3⟩ := hr1
        obtain ⟨_, _, cs, y, f, k1, k2, k3, k4, k5, k6, k7⟩ := root_use S hr0 hq hC f2
        rw [k4] at hg
        obtain ⟨v', pre, c', post, m1, m2, m3, m4, m5⟩ := getIn hg k3 ho
        injection m1 with m1
        subst m1
        have m4 : Rel σ h v'.T false v'.x c' (k :: (q ++ [0] ++ p)) := by simpa using m4
        have hfr := frz_rel S.inv hnone (t' := [j] ++ [3]) hfz m4
        refine VRel.coe hc ⟨cc, hw, ?_⟩
        simp only [Rel]
        refine ⟨b, off + st' * i.toNat, f1, c', hfr, fun j2 v2 hj2 => ?_⟩
        unfold lendSg
        simp only [cond_true, f2, hnone b _ _ f2 rfl, Blk.cells?, Option.getD_some]
        rw [m2, ← m3, List.append_assoc, List.getElem?_append_right (by omega), List.getElem?_append_left (by have := (List.getElem?_eq_some_iff.1 hj2).1; omega)]
        rw [show pre.length + j2 - pre.length = j2 by omega]; exact hj2
    | k s =>
      obtain ⟨_, u, hu, hcl, hc⟩ := hr
      rw [opdT_eval (a := a) (h2 s (.inl rfl))]
      exact VRel.coe hc (VRel.move hσ hcl (hgo s (.inl rfl)) (S.vals s u hu).2)
    | m s =>
      obtain ⟨_, hu, hcl⟩ := hr
      rw [opdT_eval (a := a) (h2 s (.inr (.inl rfl)))]
      exact VRel.move hσ hcl (hgo s (.inr rfl)) (S.vals s v hu).2
  · obtain ⟨y, t, hy, ht, rfl⟩ := hren_some hb
    obtain ⟨c, y', f1, _, f2, f3⟩ := pcm_some ht
    obtain ⟨j, ar, hk, g2⟩ := pieces_mem.1 f1
    rw [Nat.zero_add] at g2
    obtain ⟨k2, q2, q3, m1, m2, m3⟩ := pc_root ha hk g2
    refine ⟨j, q3 ++ y', by rw [Blk.tag_withTag, f3, m2]; rfl, ?_⟩
    obtain ⟨s, q4, e, u, hu1, hu2, hu3⟩ := S.own b y hy
    rw [f2, m1] at e
    injection e with e _
    subst e
    have hkl : j < sp.ps.length := by rw [← hlen]; exact (List.getElem?_eq_some_iff.1 hk).1
    obtain ⟨v, hv'⟩ : ∃ v, (initSt 0 sp.ps x).get j = some v := by
      have : ∀ (ps : List (Ty × Bool)) (x : (chain ps).den) (i k : Nat), k < ps.length → ∃ v, (initSt i ps x).get (i + k) = some v := by
        intro ps
        induction ps with
        | nil => intro x i k hk; simp at hk
        | cons p ps ih =>
          intro x i k hk
          obtain ⟨T, b⟩ := p
          simp only [initSt]
          rw [get_cons]
          rcases k with _ | k
          · exact ⟨_, if_pos (by simp)⟩
          · rw [if_neg (by omega)]
            obtain ⟨v, hv⟩ := ih x.2 (i + 1) k (by simpa using hk)
            exact ⟨v, by rw [show i + (k + 1) = i + 1 + k by omega]; exact hv⟩
      have := this sp.ps x 0 j hkl
      rwa [Nat.zero_add] at this
    refine ⟨v, hv', ?_, hclos j v hv'⟩
    obtain ⟨k3, ar2, b2, e, hk2, hp2, hr⟩ := hat j v hv'
    rw [Nat.zero_add] at e
    subst e
    rw [hk] at hk2
    injection hk2 with hk2
    subst hk2
    cases ar with
    | v o => exact g2.elim
    | r o => exact g2.elim
    | l s =>
      obtain ⟨_, hr⟩ := hr
      obtain ⟨u', o', s', n', p', x', hgp, _⟩ := g2
      rcases hr with ⟨x2, hx2, _⟩ | ⟨k5, q5, s5, n5, p5, x5, r5, C5, B5, hx5, _, _, _, _, _, _, _, hc5⟩
      · rw [hgp] at hx2; injection hx2 with hx2; injection hx2 with hx2 _; cases hx2
      · exact coe_np hc5 rfl
    | k s =>
      have : k2 = s := m3
      subst this
      obtain ⟨_, u', hu', _, hc⟩ := hr
      rw [hu1] at hu'
      injection hu' with hu'
      subst hu'
      exact coe_np hc hu2
    | m s =>
      have : k2 = s := m3
      subst this
      obtain ⟨_, hu', _⟩ := hr
      rw [hu1] at hu'
      injection hu' with hu'
      rw [← hu']; exact hu2
end
end Go.Proofs.Bw
namespace Go.Proofs.Bw
open Go

theorem lentFree_spec : ∀ {ps : List (Ty × Bool)} {T : Ty}, lentFree ps = true → (T, true) ∈ ps → T.free = true
  | [], T, _, h => by cases h
  | (U, true) :: r, T, hf, h => by
    simp only [lentFree, Bool.and_eq_true] at hf
    rcases List.mem_cons.1 h with h | h
    · injection h with h _; rw [h]; exact hf.1
    · exact lentFree_spec hf.2 h
  | (U, false) :: r, T, hf, h => by
    rcases List.mem_cons.1 h with h | h
    · injection h with _ h; cases h
    · exact lentFree_spec (by simpa [lentFree] using hf) h

section
variable {σ : Sg} {h : Hp} {st : St} {a : Act} {w : World}
theorem isPre_app {q p t : Tag} : isPre (q ++ p) (q ++ t) = isPre p t := by
  induction q with
  | nil => rfl
  | cons k q ih => simp only [List.cons_append, isPre, Nat.beq_refl, Bool.true_and, ih]
theorem isPre_more {q p t : Tag} (h : isPre q t = false) : isPre (q ++ p) t = false := by
  cases hh : isPre (q ++ p) t with
  | false => rfl
  | true =>
    obtain ⟨r, hr⟩ := isPre_iff.1 hh
    rw [isPre_iff.2 ⟨p ++ r, by rw [hr, List.append_assoc]⟩] at h; cases h
theorem coe_bo {p q : Ty} {x : p.den} {y : (Ty.opt q).den} (e : coe false (.box p) (.opt q) x = some y) : ∃ z, coe false p q x = some z := by
  have e : (match coe false p q x with
        | some y => some (some y)
        | none => none) = some y := e
  cases hz : coe false p q x with
  | none => rw [hz] at e; cases e
  | some z => exact ⟨z, rfl⟩
/-- a place that is lent, and the whole that is made of what comes back -/
theorem lend_place (S : SRel σ h st a.tmps w) {s : Nat} {v0 v u : SV} (hl : LendRel st.get s v0) (hT : v.T = v0.T) (hbx : Boxed v u) {k : Nat} {q p : Tag} {o s' n : Nat} {x : Int} (hgp : gp st.get s = some ⟨.ptr (k :: q) o s' n p, x⟩) {r : SV} (hr : st.get k = some r) :
    ∃ b ch, h b = some (.cells ch (k :: q)) ∧ a.tmps.getD s undef = .pointer (some ⟨b, 0, none⟩) ∧ k < a.tmps.size ∧ ∀ w, setK r.T r.x ((q ++ [0]) ++ p) 0 u some = some w → u.T.closed = true →
      w.T.closed = true ∧ w.T.pure = false ∧ ∀ (σ' : Sg) (h' : Hp) (ch' : List Value), σ.le σ' → (∀ b' blk t, h b' = some blk → blk.tag = k :: t → t ≠ q → isPre (q ++ 0 :: p) t = false → h' b' = some blk) → h' b = some (.cells ch' (k :: q)) →
        Rel σ' h' u.T false u.x ch' (k :: q ++ 0 :: p) → VRel σ' h' w.T w.x (a.tmps.getD k undef) [k] := by
  rcases hl with ⟨x1, hx, hc⟩ | ⟨k1, q1, s1, n1, p1, x1, r1, C, B, hx, hr1, hq, hp, hC, ho, hB, hsz, hc⟩
  · rw [hgp] at hx; injection hx with hx; injection hx with hx _; cases hx
  · rw [hgp] at hx
    injection hx with hx
    injection hx with hx _
    injection hx with e1 e2 e3 e4 e5
    injection e1 with e0 e1
    subst e0 e1 e2 e3 e4 e5
    rw [hr] at hr1
    injection hr1 with hr1
    subst hr1
    obtain ⟨h1, _⟩ := gp_rel S hgp
    obtain ⟨e1, e2⟩ := offAt_noIdx hp ho
    subst e1 e2
    obtain ⟨c, hw, hr1⟩ := h1
    have hw' : a.tmps.getD s undef = c.headD undef := by
      simp only [Ty.agg, wr] at hw; rw [hw]; rfl
    simp only [Rel] at hr1
    obtain ⟨b, ch, f1, f2, f3⟩ := hr1
    obtain ⟨kk1, kk2, cs, y, f, k1, k2, k3, k4, k5, k6, k7⟩ := root_use S hr hq hC f2
    rw [k4] at hB
    obtain ⟨v', pre, c', post, m1, m2, m3, m4, m5⟩ := getIn hB k3 ho
    injection m1 with m1
    subst m1
    have hl1 := Rel.length k3
    have hl2 := Rel.length m4
    have hl3 := hl1
    rw [m2, List.length_append, List.length_append, hl2, hsz] at hl1
    have hpre : pre = [] := List.eq_nil_of_length_eq_zero (by omega)
    have hpost : post = [] := List.eq_nil_of_length_eq_zero (by omega)
    subst hpre hpost
    simp only [List.nil_append, List.append_nil] at m2
    subst m2
    have hus : u.T.size = ch.length := by
      obtain ⟨T0, x0⟩ := v0
      obtain ⟨T1, y1⟩ := v
      have hT : T1 = T0 := hT
      subst hT
      -- sizes through the widening
      have hc : coe false (.box v'.T) T1 v'.x = some x0 := hc
      have key : ∀ (E : Ty) (z : E.den), coe false v'.T E v'.x = some z → E.size = ch.length := fun E z hz => by
        have := coe_rel hz m4
        rw [← Rel.length this]
      rcases hbx with hb | hb
      · injection hb with hb1 hb2
        subst hb1
        exact key u.T x0 hc
      · injection hb with hb1 hb2
        subst hb1
        obtain ⟨z, hz⟩ := coe_bo hc
        exact key u.T z hz
    refine ⟨b, ch, f2, by rw [hw', f1]; simp, (S.vals k r hr).1, fun w0 hw0 hucl => ?_⟩
    rw [k5] at hw0
    obtain ⟨w1, pre, c1, post, n1, n2, n3, n4, n5, n6, n7⟩ := setIn hw0 k2 k3 ho (fun hh => by rw [hp] at hh; cases hh)
    injection n1 with n1
    have hll : ch.length = pre.length + c1.length + post.length := by rw [n2]; simp [Nat.add_assoc]
    have hpre : pre = [] := List.eq_nil_of_length_eq_zero (by omega)
    have hpost : post = [] := List.eq_nil_of_length_eq_zero (by omega)
    subst hpre hpost
    obtain ⟨j1, j2, j3⟩ := k6 w1
    rw [n1] at j1 j2 j3
    refine ⟨j1 (n6 hucl), j2, fun σ' h' ch' hσ H hb' hu => ?_⟩
    have hC' : Rel σ' h' w1.T false w1.x ch' (k :: q ++ [0]) := by
      have := n7 σ' h' ch' hσ (fun b' blk q' hb ht hpre => H b' blk (q ++ 0 :: q') hb (by rw [ht]; simp) (fun e => by simpa using congrArg List.length e) (by
        have e : q ++ 0 :: p = (q ++ [0]) ++ p := by simp
        have e' : q ++ 0 :: q' = (q ++ [0]) ++ q' := by simp
        rw [e, e', isPre_app]; exact hpre)) (by
        have e : k :: q ++ [0] ++ p = k :: q ++ 0 :: p := by simp
        rw [e]; exact hu)
      simpa using this
    obtain ⟨hR, _⟩ := k7 w1 ch' σ' h' hσ (fun b' blk t hb ht hpre => H b' blk t hb ht (fun e => by rw [e, isPre_iff.2 ⟨[], by simp⟩] at hpre; cases hpre) (isPre_more hpre)) hb' hC'
    rw [n1] at hR
    exact ⟨cs, by rw [j3]; exact k1, hR⟩
end
end Go.Proofs.Bw
namespace Go.Proofs.Bw
open Go

section
variable {P : Program} {R : Type} {σ : Sg} {h : Hp} {st : St} {a : Act} {w : World} {K : St → List Tag → Option R} {r : R} {o : Oper} {Q : Exit → Act → World → Prop}

/-- the caller's cells behind a call -/
def backSg (σ' : Sg) (h h0 : Hp) : Sg := fun b j => match h b, h0 b with
  | some _, none => none
  | _, _ => σ' b j
def resPc (n : Nat) : Option Nat → List Pc
  | some d => [⟨[d], [n], false⟩]
  | none => []
def backHp (ρ' : Tag → Option Tag) (h1 h h0 : Hp) : Hp := fun b => match hren ρ' h1 b with
  | some x => some x
  | none => match h0 b with
    | some _ => none
    | none => h b
theorem finSt_ty : ∀ {ps : List (Ty × Bool)} {i j : Nat} {r : Ty} {y : (rtOf ps r).den} {v : SV}, j ∈ lentOf i ps → (finSt i ps r y).get j = some v → ps[j - i]? = some (v.T, true)
  | [], i, j, r, y, v, hm, _ => by cases hm
  | (T, true) :: ps, i, j, r, y, v, hm, hg => by
    simp only [finSt] at hg
    rw [get_cons] at hg
    by_cases e : i = j
    · rw [if_pos e] at hg
      injection hg with hg
      subst hg e
      simp
    · rw [if_neg e] at hg
      simp only [lentOf, List.mem_cons] at hm
      have hm := hm.resolve_left (Ne.symm e)
      have := (lentOf_lt hm).1
      rw [show j - i = (j - (i + 1)) + 1 by omega]
      exact finSt_ty hm hg
  | (T, false) :: ps, i, j, r, y, v, hm, hg => by
    have hm : j ∈ lentOf (i + 1) ps := hm
    have := (lentOf_lt hm).1
    rw [show j - i = (j - (i + 1)) + 1 by omega]
    exact finSt_ty (i := i + 1) hm hg
theorem initSt_get : ∀ (ps : List (Ty × Bool)) (x : (chain ps).den) (i k : Nat), k < ps.length → ∃ v, (initSt i ps x).get (i + k) = some v
  | [], x, i, k, hk => by simp at hk
  | (T, b) :: ps, x, i, k, hk => by
    simp only [initSt]
    rw [get_cons]
    rcases k with _ | k
    · exact ⟨_, if_pos (by simp)⟩
    · rw [if_neg (by omega)]
      obtain ⟨v, hv⟩ := initSt_get ps x.2 (i + 1) k (by simpa using hk)
      exact ⟨v, by rw [show i + (k + 1) = i + 1 + k by omega]; exact hv⟩
theorem Boxed.closed {v u : SV} (hb : Boxed v u) (hc : v.T.closed = true) : u.T.closed = true := by
  rcases hb with hb | hb <;> (subst hb; simpa [Ty.closed] using hc)
theorem Boxed.free {v u : SV} (hb : Boxed v u) (hc : v.T.free = true) : u.T.free = true := by
  rcases hb with hb | hb <;> (subst hb; simpa [Ty.free] using hc)
theorem Boxed.rel {σ : Sg} {h : Hp} {v u : SV} (hb : Boxed v u) {val : Value} {t : Tag} (hr : VRel σ h v.T v.x val t) : ∃ b ch, val = .pointer (some ⟨b, 0, none⟩) ∧ h b = some (.cells ch t) ∧ Rel σ h u.T false u.x ch (t ++ [0]) := by
  rcases hb with hb | hb <;>
  · subst hb
    obtain ⟨c, hw, hr⟩ := hr
    simp only [Rel] at hr
    obtain ⟨b, ch, e1, e2, e3⟩ := hr
    simp only [Ty.agg, wr] at hw
    rw [e1] at hw
    injection hw with hw _
    exact ⟨b, ch, hw.symm, e2, e3⟩

/-- the caller's state behind the call -/
theorem caller_rel (S : SRel σ h st a.tmps w) {sp : FSpec} (hok : spOk sp = true) {as : List Arg} {xs : Array Operand} {x : (chain sp.ps).den} {y : (rtOf sp.ps sp.r).den} {z : sp.r.den} {us : St} {ks : List Tag} {d : Option Nat}
    (ha : apartT (lentTags st.get as) = true) (hargs : argOk as xs.toList = true) (hx : argsK st.get sp.ps as some = some x)
    (hback : backK st.get sp.ps as sp.r y [] [] (fun x us ks => some (x, us, ks)) = some (z, us, ks))
    (hfree : shares st.get as = true → sp.r.free = true ∧ lentFree sp.ps = true) {σ' : Sg} {h1 : Hp} {w' : World} {v : Value}
    (E : Ext w (lendSg (shares st.get as) σ h (hren (pcm (pieces st.get 0 as)) h)) (hren (pcm (pieces st.get 0 as)) h) w' σ' h1) (S1 : SRel σ' h1 (finSt 0 sp.ps sp.r y) ((xs.map a.eval).push v) w')
    (hd : ∀ d', d = some d' → fresh st.get d' = true ∧ headIn (lentTags st.get as) d' = false ∧ d' < a.tmps.size)
    {us2 : St} (hus2 : us2 = match d with | some d' => (d', some ⟨sp.r, z⟩) :: us | none => us) :
    ∃ σ2 h2, Ext w σ h w' σ2 h2 ∧ SStep h st a.tmps us2 ks σ2 h2 (a.put d v).tmps w' ∧ Stay h h2 st us2 ks := by
  obtain ⟨bres, bhas, _, _, hlen, bargs⟩ := backK_some 0 ha (fun k _ => rfl) hback
  obtain ⟨_, hat⟩ := argsK_some 0 hx
  have hxl := argOk_len hargs
  have hsize : (xs.map a.eval).size = sp.ps.length := by rw [Array.size_map, ← hlen, ← hxl]; simp
  simp only [spOk, Bool.and_eq_true, List.all_eq_true] at hok
  let L := pieces st.get 0 as ++ resPc sp.ps.length d
  let h0 := hren (pcm (pieces st.get 0 as)) h
  let ρ' := pcm (L.map Pc.flip)
  let σ2 := backSg σ' h h0
  let h2 := backHp ρ' h1 h h0
  have h0def : h0 = hren (pcm (pieces st.get 0 as)) h := rfl
  rw [← h0def] at E
  obtain ⟨hpu, hpv⟩ := pieces_apart (i := 0) ha
  have hpc : ∀ c ∈ pieces st.get 0 as, ∃ (j : Nat) (b : Arg) (k : Nat) (q q' : Tag), as[j]? = some b ∧ PcOf st.get j c b ∧ c.u = k :: q ∧ c.v = j :: q' ∧ RootOf st.get k b ∧ j < sp.ps.length ∧ headIn (lentTags st.get as) k = true := by
    intro c hc
    obtain ⟨j, b, e1, e2⟩ := pieces_mem.1 hc
    rw [Nat.zero_add] at e2
    obtain ⟨k, q, q', f1, f2, f3⟩ := pc_root ha e1 e2
    exact ⟨j, b, k, q, q', e1, e2, f1, f2, f3, by rw [← hlen]; exact (List.getElem?_eq_some_iff.1 e1).1, (root_iff ha).2 ⟨j, b, e1, f3⟩⟩
  have hres : ∀ c ∈ resPc sp.ps.length d, ∃ d', d = some d' ∧ c = ⟨[d'], [sp.ps.length], false⟩ := by
    intro c hc
    cases d with
    | none => cases hc
    | some d' => exact ⟨d', rfl, by simpa [resPc] using hc⟩
  have hLu : L.Pairwise ApU := by
    refine List.pairwise_append.2 ⟨hpu, ?_, fun c hc e he x y _ _ heq => ?_⟩
    · cases d <;> simp [resPc]
    · obtain ⟨j, b, k, q, q', _, _, f1, _, _, _, f6⟩ := hpc c hc
      obtain ⟨d', rfl, rfl⟩ := hres e he
      rw [f1] at heq
      injection heq with heq _
      rw [heq, (hd d' rfl).2.1] at f6; cases f6
  have hLv : L.Pairwise ApV := by
    refine List.pairwise_append.2 ⟨hpv, ?_, fun c hc e he x y _ _ heq => ?_⟩
    · cases d <;> simp [resPc]
    · obtain ⟨j, b, k, q, q', _, _, _, f2, _, f5, _⟩ := hpc c hc
      obtain ⟨d', rfl, rfl⟩ := hres e he
      rw [f2] at heq
      injection heq with heq _
      omega
  have hρi : ∀ p q c, ρ' p = some c → ρ' q = some c → p = q := fun p q c h1 h2 => pcm_flip_inj hLu h1 h2
  -- where a tag of the callee's comes from
  have hρ : ∀ t t', ρ' t = some t' → (∃ d' y, d = some d' ∧ t = sp.ps.length :: y ∧ t' = d' :: y) ∨ (∃ (j : Nat) (b : Arg) (c : Pc) (y : Tag) (k : Nat) (q q' : Tag), as[j]? = some b ∧ c ∈ pieces st.get 0 as ∧ PcOf st.get j c b ∧ c.ext y ∧ t = c.v ++ y ∧ t' = c.u ++ y ∧ c.u = k :: q ∧ c.v = j :: q' ∧ RootOf st.get k b ∧ j < sp.ps.length ∧ headIn (lentTags st.get as) k = true) := by
    intro t t' ht
    obtain ⟨c, y, e1, e2, e3, e4⟩ := pcm_flip_some ht
    rcases List.mem_append.1 e1 with e1 | e1
    · obtain ⟨j, b, k, q, q', f1, f2, f3, f4, f5, f6, f7⟩ := hpc c e1
      exact .inr ⟨j, b, c, y, k, q, q', f1, e1, f2, e2, e3, e4, f3, f4, f5, f6, f7⟩
    · obtain ⟨d', rfl, rfl⟩ := hres c e1
      exact .inl ⟨d', y, rfl, e3, e4⟩
  have hasus : ∀ s, hasS us2 s = true ↔ (d = some s ∨ headIn (lentTags st.get as) s = true) := by
    intro s
    have e1 : hasS us s = headIn (lentTags st.get as) s := by rw [bhas]; simp [hasS]
    subst hus2
    cases d with
    | none => simp only [e1]; simp
    | some d' => simp only [hasS, e1, Bool.or_eq_true]; rw [beq_iff]; simp
  have husd : ∀ s, d ≠ some s → St.get us2 s = St.get us s := by
    intro s hs
    subst hus2
    cases d with
    | none => rfl
    | some d' =>
      simp only []
      rw [get_cons, if_neg (fun e => hs (by rw [e]))]
  have hown : ∀ b x, h b = some x → ∃ k q, x.tag = k :: q ∧ Owns st k ∧ d ≠ some k := by
    intro b x hb
    obtain ⟨k, q, e1, e2⟩ := S.own b x hb
    exact ⟨k, q, e1, e2, fun e => not_owns_of_fresh (hd k e).1 e2⟩
  have h0none : ∀ b x, h b = some x → (h0 b = none ↔ pcm (pieces st.get 0 as) x.tag = none) := by
    intro b x hb
    constructor
    · intro hn
      cases hp : pcm (pieces st.get 0 as) x.tag with
      | none => rfl
      | some t => rw [h0def, hren_of hb hp] at hn; cases hn
    · intro hn
      exact hren_not hb hn
  have h0head : ∀ b x k q, h b = some x → x.tag = k :: q → headIn (lentTags st.get as) k = false → h0 b = none := by
    intro b x k q hb ht hk
    refine (h0none b x hb).2 ?_
    cases hp : pcm (pieces st.get 0 as) x.tag with
    | none => rfl
    | some t =>
      obtain ⟨c, y, e1, _, e3, _⟩ := pcm_some hp
      obtain ⟨j, b', k', q', q'', _, _, f3, _, _, _, f7⟩ := hpc c e1
      rw [ht, f3] at e3
      injection e3 with e3 _
      rw [← e3, hk] at f7; cases f7
  have hkept : ∀ b x, h b = some x → h0 b = none → h1 b = none ∧ w'.heap[b]? = w.heap[b]? := by
    intro b x hb hn
    obtain ⟨k1, k2, _⟩ := E.keep b (S.inv.lt hb) hn
    exact ⟨k2, k1⟩
  have h2some : ∀ b x, h2 b = some x → (∃ x0 t, h1 b = some x0 ∧ ρ' x0.tag = some t ∧ x = x0.withTag t) ∨ (h b = some x ∧ h0 b = none ∧ h1 b = none) := by
    intro b x hb
    have hb : (match hren ρ' h1 b with
      | some x => some x
      | none => match h0 b with
        | some _ => none
        | none => h b) = some x := hb
    split at hb
    · rename_i y hy
      injection hb with hb
      subst hb
      exact .inl (hren_some hy)
    · split at hb
      · cases hb
      · rename_i hn
        exact .inr ⟨hb, hn, (hkept b x hb hn).1⟩
  have h2kept : ∀ b x, h b = some x → h0 b = none → h2 b = some x := by
    intro b x hb hn
    show (match hren ρ' h1 b with
      | some x => some x
      | none => match h0 b with
        | some _ => none
        | none => h b) = some x
    rw [hren_none (hkept b x hb hn).1, hn]
    exact hb
  have h2of : ∀ b x t, h1 b = some x → ρ' x.tag = some t → h2 b = some (x.withTag t) := by
    intro b x t hb ht
    show (match hren ρ' h1 b with
      | some x => some x
      | none => match h0 b with
        | some _ => none
        | none => h b) = _
    rw [hren_of hb ht]
  have h2goes : ∀ c ∈ L, c.e = false → Goes h1 h2 c.v c.u := by
    intro c hc he b blk r hb ht
    exact h2of b blk _ hb (by rw [ht]; exact pcm_flip_of hLv hc (fun e => by rw [he] at e; cases e))
  have hσ2 : ∀ b j, (∃ x, h b = some x ∧ h0 b = none ∧ σ2 b j = none) ∨ ((h b = none ∨ h0 b ≠ none) ∧ σ2 b j = σ' b j) := by
    intro b j
    cases hb : h b with
    | none => exact .inr ⟨.inl rfl, by show backSg σ' h h0 b j = _; unfold backSg; rw [hb]⟩
    | some x =>
      cases hc : h0 b with
      | none => exact .inl ⟨x, rfl, rfl, by show backSg σ' h h0 b j = _; unfold backSg; rw [hb, hc]⟩
      | some y => exact .inr ⟨.inr (by simp), by show backSg σ' h h0 b j = _; unfold backSg; rw [hb, hc]⟩
  have hσle : σ.le σ2 := by
    intro b j v hb
    have hn : h b = none := by
      cases hx : h b with
      | none => rfl
      | some x => rw [S.inv.own b x hx j] at hb; cases hb
    rcases hσ2 b j with ⟨x, hx, _⟩ | ⟨_, e⟩
    · rw [hn] at hx; cases hx
    · rw [e]
      refine E.le b j v ?_
      rw [lendSg_old hn]; exact hb
  -- a tag that comes back is none that stayed
  have hclash : ∀ b x t t', h b = some x → h0 b = none → ρ' t = some t' → t' ≠ x.tag := by
    intro b x t t' hb hn ht e
    obtain ⟨k, q, e1, _, e3⟩ := hown b x hb
    rcases hρ t t' ht with ⟨d', y, f1, f2, f3⟩ | ⟨j, b', c, y, k', q', q'', f1, f2, f3, f4, f5, f6, _⟩
    · rw [← e, f3] at e1
      injection e1 with e1 _
      exact e3 (by rw [f1, e1])
    · have := (h0none b x hb).1 hn
      rw [← e, f6, pcm_of hpu f2 f4] at this; cases this
  have I2 : Inv w' σ2 h2 := by
    refine ⟨fun b x cs hb hc => ?_, fun b es t hb => ?_, fun b x hb j => ?_, fun b j v hb => ?_, fun b c x y hb hc hxy => ?_⟩
    · rcases h2some b x hb with ⟨x0, t, f1, f2, rfl⟩ | ⟨f1, f2, f3⟩
      · rw [withTag_cells] at hc
        exact S1.inv.cells b x0 cs f1 hc
      · obtain ⟨e, lo, hi, g1, g2⟩ := S.inv.cells b x cs f1 hc
        exact ⟨e, lo, hi, by rw [(hkept b x f1 f2).2]; exact g1, g2⟩
    · rcases h2some b _ hb with ⟨x0, t', f1, f2, f4⟩ | ⟨f1, f2, f3⟩
      · cases x0 with
        | cells _ _ => cases f4
        | row _ _ => cases f4
        | obj o' t0 =>
          injection f4 with e1 e2
          subst e1
          exact S1.inv.maps b _ _ f1
      · rw [(hkept b _ f1 f2).2]; exact S.inv.maps b _ _ f1
    · rcases h2some b x hb with ⟨x0, t, f1, f2, rfl⟩ | ⟨f1, f2, f3⟩
      · rcases hσ2 b j with ⟨_, _, _, e⟩ | ⟨_, e⟩
        · exact e
        · rw [e]; exact S1.inv.own b x0 f1 j
      · rcases hσ2 b j with ⟨_, _, _, e⟩ | ⟨e1 | e1, e⟩
        · exact e
        · rw [f1] at e1; cases e1
        · exact (e1 f2).elim
    · rcases hσ2 b j with ⟨_, _, _, e⟩ | ⟨_, e⟩
      · rw [e] at hb; cases hb
      · exact S1.inv.sta b j v (by rw [← e]; exact hb)
    · rcases h2some b x hb with ⟨x0, t, f1, f2, rfl⟩ | ⟨f1, f2, f3⟩
      · rcases h2some c y hc with ⟨y0, t', g1, g2, rfl⟩ | ⟨g1, g2, g3⟩
        · rw [Blk.tag_withTag, Blk.tag_withTag] at hxy
          subst hxy
          exact S1.inv.inj b c x0 y0 f1 g1 (hρi _ _ _ f2 g2)
        · rw [Blk.tag_withTag] at hxy
          exact (hclash c y _ _ g1 g2 f2 hxy).elim
      · rcases h2some c y hc with ⟨y0, t', g1, g2, rfl⟩ | ⟨g1, g2, g3⟩
        · rw [Blk.tag_withTag] at hxy
          exact (hclash b x _ _ f1 f2 g2 hxy.symm).elim
        · exact S.inv.inj b c x y f1 g1 hxy
  -- the values that come back
  have hfree2 : shares st.get as = false → ∀ b j, σ2 b j = σ' b j := by
    intro hs b j
    rcases hσ2 b j with ⟨x, e1, e2, e⟩ | ⟨_, e⟩
    · rw [e]
      have := (E.keep b (S.inv.lt e1) e2).2.2 j
      rw [this, hs]
      unfold lendSg
      simp only [cond_false]
      exact (S.inv.own b x e1 j).symm
    · exact e
  have hmoveR : ∀ c ∈ L, c.e = false → ∀ T (x : T.den) cs, T.closed = true → (shares st.get as = true → T.free = true) → Rel σ' h1 T false x cs c.v → Rel σ2 h2 T false x cs c.u := by
    intro c hc he T x cs hcl hfr hv
    cases hs : shares st.get as with
    | false =>
      have : σ'.le σ2 := fun b j v hb => by rw [hfree2 hs]; exact hb
      exact Rel.move this hcl (h2goes c hc he) hv
    | true =>
      have h3 : Rel σ' h2 T false x cs c.u := Rel.move (Sg.le_refl _) hcl (h2goes c hc he) hv
      exact Rel.free (hfr hs) h3
  have hsz : ((a.put d v).tmps).size = a.tmps.size := by cases d <;> simp [Act.put]
  have hput : ∀ s, (a.put d v).tmps.getD s undef = if d = some s ∧ s < a.tmps.size then v else a.tmps.getD s undef := by
    intro s
    cases d with
    | none => simp [Act.put]
    | some d' =>
      show (a.tmps.setIfInBounds d' v).getD s undef = _
      rw [getD_set]
      simp
  have hargv : ∀ j b s, as[j]? = some b → (b = .m s ∨ b = .l s) → ((xs.map a.eval).push v).getD j undef = a.tmps.getD s undef := by
    intro j b s hj hb
    obtain ⟨xo, hxo, _, hop⟩ := argOk_at hargs hj
    have hop := hop s (hb.elim (fun e => .inr (.inl e)) (fun e => .inr (.inr (.inl e))))
    have hil : j < xs.size := by
      have := (List.getElem?_eq_some_iff.1 hxo).1
      simpa using this
    have hxo' : xs[j]? = some xo := by rw [← Array.getElem?_toList]; exact hxo
    rw [← opdT_eval (a := a) hop]
    rw [Array.getD_eq_getD_getElem?, Array.getElem?_push_lt (by simpa using hil)]
    have h3 : xs[j] = xo := by rw [Array.getElem?_eq_getElem hil] at hxo'; injection hxo'
    simp [h3]
  have hlentc : ∀ j v', j ∈ lentOf 0 sp.ps → (finSt 0 sp.ps sp.r y).get j = some v' → v'.T.closed = true ∧ (shares st.get as = true → v'.T.free = true) := by
    intro j v' hj hv'
    have := List.mem_of_getElem? (finSt_ty hj hv')
    exact ⟨hok.1 _ this, fun hh => lentFree_spec (hfree hh).2 this⟩
  -- each slot that is written
  have hclv : ∀ s v', hasS us2 s = true → St.get us2 s = some v' → s < (a.put d v).tmps.size ∧ VRel σ2 h2 v'.T v'.x ((a.put d v).tmps.getD s undef) [s] ∧ v'.T.closed = true := by
    intro s v' hs hv'
    rw [hput, hsz]
    by_cases hds : d = some s
    · have hv2 : v' = ⟨sp.r, z⟩ := by
        subst hds
        subst hus2
        simp only [] at hv'
        rw [get_cons, if_pos rfl] at hv'
        injection hv' with hv'
        exact hv'.symm
      subst hv2
      have hg : (finSt 0 sp.ps sp.r y).get sp.ps.length = some ⟨sp.r, z⟩ := by simpa using bres
      obtain ⟨g1, c, g2, g3⟩ := S1.vals _ _ hg
      rw [if_pos ⟨hds, (hd s hds).2.2⟩]
      have : ((xs.map a.eval).push v).getD sp.ps.length undef = v := by
        rw [← hsize, Array.getD_eq_getD_getElem?, Array.getElem?_push_size]; rfl
      rw [this] at g2
      have hm : (⟨[s], [sp.ps.length], false⟩ : Pc) ∈ L := List.mem_append.2 (.inr (by rw [hds]; simp [resPc]))
      exact ⟨(hd s hds).2.2, ⟨c, g2, hmoveR _ hm rfl _ _ _ hok.2 (fun hh => (hfree hh).1) g3⟩, hok.2⟩
    · rw [if_neg (fun hh => hds hh.1)]
      rw [husd s hds] at hv'
      obtain ⟨j, b, hj, hroot⟩ := (root_iff ha).1 (((hasus s).1 hs).resolve_left hds)
      obtain ⟨k1, k2, k3⟩ := bargs j b hj
      rw [Nat.zero_add] at k1 k2 k3
      cases b with
      | v o => exact hroot.elim
      | r o => exact hroot.elim
      | k s' =>
        have : s = s' := hroot
        subst this
        rw [k1.1] at hv'; cases hv'
      | m s' =>
        have : s = s' := hroot
        subst this
        rw [k1.1] at hv'
        obtain ⟨c1, c2⟩ := hlentc j v' (k2 rfl) hv'
        obtain ⟨g1, c, g2, g3⟩ := S1.vals _ _ hv'
        rw [hargv j _ s hj (.inl rfl)] at g2
        have hm : (⟨[s], [j], false⟩ : Pc) ∈ L := List.mem_append.2 (.inl (pieces_mem.2 ⟨j, _, hj, by rw [Nat.zero_add]; rfl⟩))
        refine ⟨?_, ⟨c, g2, hmoveR _ hm rfl _ _ _ c1 c2 g3⟩, c1⟩
        obtain ⟨v0, hv0⟩ := initSt_get sp.ps x 0 j (by rw [← hlen]; exact (List.getElem?_eq_some_iff.1 hj).1)
        rw [Nat.zero_add] at hv0
        obtain ⟨k', ar, bb, e, hk', _, hr⟩ := hat j v0 hv0
        rw [Nat.zero_add] at e
        subst e
        rw [hj] at hk'
        injection hk' with hk'
        subst hk'
        exact (S.vals s v0 hr.2.1).1
      | l s' =>
        obtain ⟨q, o, st', n, p, x', hgp⟩ := hroot
        rcases k1 with ⟨x2, hx2⟩ | ⟨k', q2, o2, st2, n2, p2, x2, r, v1, u, w0, hg1, hg2, hg3, hg4, hg5, hg6, hg7⟩
        · rw [hgp] at hx2; injection hx2 with hx2; injection hx2 with hx2 _; cases hx2
        · rw [hgp] at hg1
          injection hg1 with hg1
          injection hg1 with hg1 _
          injection hg1 with f1 f2 f3 f4 f5
          injection f1 with f0 f1
          subst f0 f1 f2 f3 f4 f5
          rw [hg6] at hv'
          injection hv' with hv'
          subst hv'
          obtain ⟨v0, hv0⟩ := initSt_get sp.ps x 0 j (by rw [← hlen]; exact (List.getElem?_eq_some_iff.1 hj).1)
          rw [Nat.zero_add] at hv0
          obtain ⟨k', ar, bb, e, hk', hp', hr⟩ := hat j v0 hv0
          rw [Nat.zero_add] at e
          subst e
          rw [hj] at hk'
          injection hk' with hk'
          subst hk'
          have hty := finSt_ty (k2 rfl) hg3
          rw [Nat.sub_zero, hp'] at hty
          injection hty with hty
          injection hty with hty _
          obtain ⟨c1, c2⟩ := hlentc j v1 (k2 rfl) hg3
          obtain ⟨bk, ch, m1, m2, m3, m4⟩ := lend_place S hr.2 hty.symm hg4 hgp hg2
          obtain ⟨n1, n2', n3⟩ := m4 w0 hg5 (hg4.closed c1)
          obtain ⟨_, g2⟩ := S1.vals _ _ hg3
          rw [hargv j _ s' hj (.inr rfl), m2] at g2
          obtain ⟨bk', ch', p1, p2, p3⟩ := hg4.rel g2
          injection p1 with p1
          injection p1 with p1
          injection p1 with p1
          subst p1
          have hm1 : (⟨s :: q, [j], true⟩ : Pc) ∈ L := List.mem_append.2 (.inl (pieces_mem.2 ⟨j, _, hj, by rw [Nat.zero_add]; exact ⟨_, _, _, _, _, _, hgp, .inl rfl⟩⟩))
          have hm2 : (⟨s :: q ++ 0 :: p, [j, 0], false⟩ : Pc) ∈ L := List.mem_append.2 (.inl (pieces_mem.2 ⟨j, _, hj, by rw [Nat.zero_add]; exact ⟨_, _, _, _, _, _, hgp, .inr rfl⟩⟩))
          refine ⟨m3, n3 σ2 h2 ch' hσle (fun b' blk t hb ht hne hpre => ?_) ?_ (hmoveR _ hm2 rfl _ _ _ (hg4.closed c1) (fun hh => hg4.free (c2 hh)) p3), n1⟩
          · refine h2kept b' blk hb ((h0none b' blk hb).2 ?_)
            cases hpp : pcm (pieces st.get 0 as) blk.tag with
            | none => rfl
            | some t2 =>
              exfalso
              obtain ⟨c, y', e1, e2, e3, e4⟩ := pcm_some hpp
              obtain ⟨j', b2, k3', q3, q3', f1, f2, f3, f4, f5, f6, f7⟩ := hpc c e1
              rw [ht, f3] at e3
              injection e3 with e3 e3'
              replace e3' : t = q3 ++ y' := e3'
              subst e3
              -- the argument is this one
              have hjj : j' = j := by
                rcases Nat.lt_trichotomy j' j with hlt | heq | hgt
                · exact (root_once ha hlt f1 hj f5 ⟨q, o, st', n, p, x', hgp⟩).elim
                · exact heq
                · exact (root_once ha hgt hj f1 ⟨q, o, st', n, p, x', hgp⟩ f5).elim
              subst hjj
              rw [hj] at f1
              injection f1 with f1
              subst f1
              obtain ⟨u5, o5, s5, n5, p5, x5, hgp5, hc5⟩ := f2
              rw [hgp] at hgp5
              injection hgp5 with hgp5
              injection hgp5 with hgp5 _
              injection hgp5 with i1 i2 i3 i4 i5
              subst i1 i5
              rcases hc5 with rfl | rfl
              · have : y' = [] := e2 rfl
                subst this
                injection f3 with _ f3
                rw [List.append_nil, ← f3] at e3'
                exact hne e3'
              · have hq3 : q ++ 0 :: p = q3 := by injection f3
                rw [e3', ← hq3, isPre_iff.2 ⟨y', rfl⟩] at hpre; cases hpre
          · have := h2of bk (.cells ch' [j]) (s :: q) p2 (by
              have := pcm_flip_of (x := []) hLv hm1 (fun _ => rfl)
              simp only [List.append_nil] at this
              exact this)
            exact this
  have hstay : Stay h h2 st us2 ks := by
    intro k r hk e2 hdead
    have hdk : d ≠ some k := fun e => not_owns_of_fresh (hd k e).1 e2
    obtain ⟨j, b', hj, hroot⟩ := (root_iff ha).1 (((hasus k).1 hk).resolve_left hdk)
    obtain ⟨k1, k2, k3⟩ := bargs j b' hj
    rw [Nat.zero_add] at k1 k2 k3
    have hdd : ∀ (t : Tag), t ∈ ks → isPre t (k :: r) = true → False := fun t ht hp => by
      rw [isPreAny_mk ht hp] at hdead; cases hdead
    cases b' with
    | v o => exact hroot.elim
    | r o => exact hroot.elim
    | k s' =>
      have : k = s' := hroot
      subst this
      exact (hdd _ k1.2 (isPre_iff.2 ⟨r, rfl⟩)).elim
    | m s' =>
      have : k = s' := hroot
      subst this
      exact (hdd _ k1.2 (isPre_iff.2 ⟨r, rfl⟩)).elim
    | l s' =>
      obtain ⟨q0, o, st', n, p, x', hgp⟩ := hroot
      rcases k1 with ⟨x2, hx2⟩ | ⟨k', q5, o2, st2, n2, p2, x2, r0, v1, u, w0, hg1, hg2, hg3, hg4, hg5, hg6, hg7⟩
      · rw [hgp] at hx2; injection hx2 with hx2; injection hx2 with hx2 _; cases hx2
      · rw [hgp] at hg1
        injection hg1 with hg1
        injection hg1 with hg1 _
        injection hg1 with f1' f2' f3' f4' f5'
        injection f1' with f0' f1'
        subst f0' f1' f2' f3' f4' f5'
        obtain ⟨v0, hv0⟩ := initSt_get sp.ps x 0 j (by rw [← hlen]; exact (List.getElem?_eq_some_iff.1 hj).1)
        rw [Nat.zero_add] at hv0
        obtain ⟨k', ar, bb, ee, hk', hp', hr⟩ := hat j v0 hv0
        rw [Nat.zero_add] at ee
        subst ee
        rw [hj] at hk'
        injection hk' with hk'
        subst hk'
        have hty := finSt_ty (k2 rfl) hg3
        rw [Nat.sub_zero, hp'] at hty
        injection hty with hty
        injection hty with hty _
        obtain ⟨c1, c2⟩ := hlentc j v1 (k2 rfl) hg3
        obtain ⟨bk, ch, m1, m2, m3, m4⟩ := lend_place S hr.2 hty.symm hg4 hgp hg2
        obtain ⟨n1, n2', n3⟩ := m4 w0 hg5 (hg4.closed c1)
        refine ⟨?_, w0, by rw [get_upd, if_pos hk, husd k hdk]; exact hg6, n2', n1⟩
        -- the place's block is there, the others are as they were
        obtain ⟨_, g2⟩ := S1.vals _ _ hg3
        rw [hargv j _ s' hj (.inr rfl), m2] at g2
        obtain ⟨bk', ch', p1, p2, p3⟩ := hg4.rel g2
        injection p1 with p1
        injection p1 with p1
        injection p1 with p1
        subst p1
        have hm1 : (⟨k :: q0, [j], true⟩ : Pc) ∈ L := List.mem_append.2 (.inl (pieces_mem.2 ⟨j, _, hj, by rw [Nat.zero_add]; exact ⟨_, _, _, _, _, _, hgp, .inl rfl⟩⟩))
        have hb2 : h2 bk = some (.cells ch' (k :: q0)) := h2of bk (.cells ch' [j]) (k :: q0) p2 (by
          have := pcm_flip_of (x := []) hLv hm1 (fun _ => rfl)
          simp only [List.append_nil] at this
          exact this)
        by_cases hrq : r = q0
        · subst hrq
          have huniq : ∀ b' blk, h b' = some blk → blk.tag = k :: r → b' = bk := fun b' blk hb ht => S.inv.inj b' bk blk _ hb m1 (by rw [ht]; rfl)
          refine ⟨fun b' cs hb => ?_, fun b' cs hb => ?_, fun b' cs hb => ?_, fun hno b' blk hb => ?_⟩
          · have := huniq b' _ hb rfl
            subst this
            exact ⟨ch', hb2⟩
          · have := huniq b' _ hb rfl
            subst this
            rw [m1] at hb
            injection hb with hb
            cases hb
          · have := huniq b' _ hb rfl
            subst this
            rw [m1] at hb
            injection hb with hb
            cases hb
          · exact (hno bk _ m1 rfl).elim
        · have hpre : isPre (q0 ++ [0]) r = false := by
            cases hh : isPre (q0 ++ [0]) r with
            | false => rfl
            | true =>
              refine (hdd _ hg7 ?_).elim
              obtain ⟨r2, hr2⟩ := isPre_iff.1 hh
              exact isPre_iff.2 ⟨r2, by rw [hr2]; simp⟩
          -- tags of pieces below this root
          have htag : ∀ t2 t3, pcm (pieces st.get 0 as) t2 = some t3 → t2 ≠ k :: r := by
            intro t2 t3 hpp e
            obtain ⟨c, y', e1, e2', e3, e4⟩ := pcm_some hpp
            obtain ⟨j', b2, k3', q3, q3', f1, f2, f3, f4, f5, f6, f7⟩ := hpc c e1
            rw [e, f3] at e3
            injection e3 with e3 e3'
            replace e3' : r = q3 ++ y' := e3'
            subst e3
            have hjj : j' = j := by
              rcases Nat.lt_trichotomy j' j with hlt | heq | hgt
              · exact (root_once ha hlt f1 hj f5 ⟨q0, o, st', n, p, x', hgp⟩).elim
              · exact heq
              · exact (root_once ha hgt hj f1 ⟨q0, o, st', n, p, x', hgp⟩ f5).elim
            subst hjj
            rw [hj] at f1
            injection f1 with f1
            subst f1
            obtain ⟨u5, o5, s5, n5, p5, x5, hgp5, hc5⟩ := f2
            rw [hgp] at hgp5
            injection hgp5 with hgp5
            injection hgp5 with hgp5 _
            injection hgp5 with i1 i2 i3 i4 i5
            subst i1 i5
            rcases hc5 with rfl | rfl
            · have : y' = [] := e2' rfl
              subst this
              injection f3 with _ f3
              rw [List.append_nil, ← f3] at e3'
              exact hrq e3'
            · have hq3 : q0 ++ 0 :: p = q3 := by injection f3
              rw [e3', ← hq3] at hpre
              rw [isPre_iff.2 ⟨p ++ y', by simp⟩] at hpre; cases hpre
          have hk2 : ∀ b' blk, h b' = some blk → blk.tag = k :: r → h2 b' = some blk := fun b' blk hb ht => h2kept b' blk hb ((h0none b' blk hb).2 (by
            cases hpp : pcm (pieces st.get 0 as) blk.tag with
            | none => rfl
            | some t3 => exact (htag _ _ hpp ht).elim))
          refine ⟨fun b' cs hb => ⟨cs, hk2 _ _ hb rfl⟩, fun b' cs hb => hk2 _ _ hb rfl, fun b' cs hb => hk2 _ _ hb rfl, fun hno b' blk hb ht => ?_⟩
          rcases h2some b' blk hb with ⟨x0, t, f1, f2, rfl⟩ | ⟨f1, f2, f3⟩
          · rw [Blk.tag_withTag] at ht
            rcases hρ _ _ f2 with ⟨d', y', g1, g2', g3⟩ | ⟨j', b'', c, y', k', q2, q3, g1, g2', g3, g4, g5, g6, _⟩
            · rw [ht] at g3
              injection g3 with g3 _
              exact hdk (by rw [g1, g3])
            · have := pcm_of hpu g2' g4
              rw [← g6] at this
              exact htag _ _ this ht
          · exact hno b' blk f1 ht
  refine ⟨σ2, h2, ⟨E.size, hσle, E.os, E.tape, E.out, fun b hb hn => ?_⟩, SRel.upd S us2 ks hσle I2 ?_ ?_ ?_ ⟨hsz, fun s hs => ?_⟩ ?_, hstay⟩
  · have hn0 : h0 b = none := hren_none hn
    obtain ⟨k1, k2, k3⟩ := E.keep b hb hn0
    refine ⟨k1, ?_, fun j => ?_⟩
    · show (match hren ρ' h1 b with
        | some x => some x
        | none => match h0 b with
          | some _ => none
          | none => h b) = none
      rw [hren_none k2, hn0]; exact hn
    · rcases hσ2 b j with ⟨x, hx, _⟩ | ⟨_, e⟩
      · rw [hn] at hx; cases hx
      · rw [e, k3 j, lendSg_old hn]
  · intro b blk k r hb ht hk
    refine h2kept b blk hb (h0head b blk k r hb ht ?_)
    cases hh : headIn (lentTags st.get as) k with
    | false => rfl
    | true => rw [(hasus k).2 (.inr hh)] at hk; cases hk
  · intro b blk hb
    rcases h2some b blk hb with ⟨x0, t, f1, f2, rfl⟩ | ⟨f1, f2, f3⟩
    · obtain ⟨i', q', e1, v', e2, e3, e4⟩ := S1.own b x0 f1
      rcases hρ _ _ f2 with ⟨d', y', g1, g2, g3⟩ | ⟨j, b', c, y', k, q2, q3, g1, g2, g3, g4, g5, g6, g7, g8, g9, g10, g11⟩
      · have hin : hasS us2 d' = true := (hasus d').2 (.inl g1)
        refine ⟨d', y', by rw [Blk.tag_withTag]; exact g3, fun _ => ?_, fun hh => by rw [hin] at hh; cases hh⟩
        rw [g2] at e1
        injection e1 with e1 _
        subst e1
        have hbr : (finSt 0 sp.ps sp.r y).get sp.ps.length = some ⟨sp.r, z⟩ := by simpa using bres
        rw [hbr] at e2
        injection e2 with e2
        subst e2
        refine ⟨⟨sp.r, z⟩, ?_, e3, e4⟩
        rw [get_upd, if_pos hin]
        subst g1 hus2
        simp only []
        rw [get_cons, if_pos rfl]
      · have hin : hasS us2 k = true := (hasus k).2 (.inr g11)
        refine ⟨k, q2 ++ y', by rw [Blk.tag_withTag, g6, g7]; rfl, fun _ => ?_, fun hh => by rw [hin] at hh; cases hh⟩
        rw [g5, g8] at e1
        injection e1 with e1 _
        subst e1
        have hdk : d ≠ some k := fun e => by rw [(hd k e).2.1] at g11; cases g11
        obtain ⟨k1, k2, k3⟩ := bargs j b' g1
        rw [Nat.zero_add] at k1 k2 k3
        have hjl : j ∈ lentOf 0 sp.ps := by
          cases hm : decide (j ∈ lentOf 0 sp.ps) with
          | true => simpa using hm
          | false =>
            have hm : ¬ j ∈ lentOf 0 sp.ps := by simpa using hm
            have := finSt_none (r := sp.r) (y := y) hm (by rw [Nat.zero_add]; omega)
            rw [this] at e2; cases e2
        have hgoal : ∃ u, St.get us2 k = some u ∧ u.T.pure = false ∧ u.T.closed = true := by
          rw [husd k hdk]
          cases b' with
          | v o => exact g3.elim
          | r o => exact g3.elim
          | k s' => have := k3 hjl; cases this
          | m s' =>
            have : k = s' := g9
            subst this
            exact ⟨v', by rw [k1.1]; exact e2, e3, e4⟩
          | l s' =>
            obtain ⟨q, o, st', n, p, x', hgp⟩ := g9
            rcases k1 with ⟨x2, hx2⟩ | ⟨k', q5, o2, st2, n2, p2, x2, r, v1, u, w0, hg1, hg2, hg3, hg4, hg5, hg6, hg7⟩
            · rw [hgp] at hx2; injection hx2 with hx2; injection hx2 with hx2 _; cases hx2
            · rw [hgp] at hg1
              injection hg1 with hg1
              injection hg1 with hg1 _
              injection hg1 with f1 f2 f3 f4 f5
              injection f1 with f0 f1
              subst f0 f1 f2 f3 f4 f5
              obtain ⟨v0, hv0⟩ := initSt_get sp.ps x 0 j (by rw [← hlen]; exact (List.getElem?_eq_some_iff.1 g1).1)
              rw [Nat.zero_add] at hv0
              obtain ⟨k', ar, bb, e, hk', hp', hr⟩ := hat j v0 hv0
              rw [Nat.zero_add] at e
              subst e
              rw [g1] at hk'
              injection hk' with hk'
              subst hk'
              have hty := finSt_ty (k2 rfl) hg3
              rw [Nat.sub_zero, hp'] at hty
              injection hty with hty
              injection hty with hty _
              obtain ⟨c1, c2⟩ := hlentc j v1 (k2 rfl) hg3
              obtain ⟨bk, ch, m1, m2, m3, m4⟩ := lend_place S hr.2 hty.symm hg4 hgp hg2
              obtain ⟨n1, n2', n3⟩ := m4 w0 hg5 (hg4.closed c1)
              exact ⟨w0, hg6, n2', n1⟩
        obtain ⟨u, hu1, hu2, hu3⟩ := hgoal
        exact ⟨u, by rw [get_upd, if_pos hin]; exact hu1, hu2, hu3⟩
    · obtain ⟨k, q, e1, e2, e3⟩ := hown b blk f1
      refine ⟨k, q, e1, fun hh => ?_, fun _ => f1⟩
      rcases (hasus k).1 hh with e | e
      · exact (e3 e).elim
      · -- the root of a place that was lent
        have hdk : d ≠ some k := e3
        obtain ⟨j, b', hj, hroot⟩ := (root_iff ha).1 e
        obtain ⟨k1, k2, k3⟩ := bargs j b' hj
        rw [Nat.zero_add] at k1 k2 k3
        have hall : ∀ (pc : Pc), pc ∈ pieces st.get 0 as → pc.u = [k] → pc.e = false → False := by
          intro pc hpcm hu he
          have := (h0none b blk f1).1 f2
          rw [e1] at this
          have h3 := pcm_of (x := q) hpu hpcm (fun e => by rw [he] at e; cases e)
          rw [hu] at h3
          have h3 : pcm (pieces st.get 0 as) (k :: q) = some (pc.v ++ q) := h3
          rw [h3] at this; cases this
        cases b' with
        | v o => exact hroot.elim
        | r o => exact hroot.elim
        | k s' =>
          have : k = s' := hroot
          subst this
          exact (hall ⟨[k], [j], false⟩ (pieces_mem.2 ⟨j, _, hj, by rw [Nat.zero_add]; rfl⟩) rfl rfl).elim
        | m s' =>
          have : k = s' := hroot
          subst this
          exact (hall ⟨[k], [j], false⟩ (pieces_mem.2 ⟨j, _, hj, by rw [Nat.zero_add]; rfl⟩) rfl rfl).elim
        | l s' =>
          obtain ⟨q0, o, st', n, p, x', hgp⟩ := hroot
          rcases k1 with ⟨x2, hx2⟩ | ⟨k', q5, o2, st2, n2, p2, x2, r, v1, u, w0, hg1, hg2, hg3, hg4, hg5, hg6, hg7⟩
          · rw [hgp] at hx2; injection hx2 with hx2; injection hx2 with hx2 _; cases hx2
          · rw [hgp] at hg1
            injection hg1 with hg1
            injection hg1 with hg1 _
            injection hg1 with f1' f2' f3' f4' f5'
            injection f1' with f0' f1'
            subst f0' f1' f2' f3' f4' f5'
            obtain ⟨v0, hv0⟩ := initSt_get sp.ps x 0 j (by rw [← hlen]; exact (List.getElem?_eq_some_iff.1 hj).1)
            rw [Nat.zero_add] at hv0
            obtain ⟨k', ar, bb, ee, hk', hp', hr⟩ := hat j v0 hv0
            rw [Nat.zero_add] at ee
            subst ee
            rw [hj] at hk'
            injection hk' with hk'
            subst hk'
            have hty := finSt_ty (k2 rfl) hg3
            rw [Nat.sub_zero, hp'] at hty
            injection hty with hty
            injection hty with hty _
            obtain ⟨c1, c2⟩ := hlentc j v1 (k2 rfl) hg3
            obtain ⟨bk, ch, m1, m2, m3, m4⟩ := lend_place S hr.2 hty.symm hg4 hgp hg2
            obtain ⟨n1, n2', n3⟩ := m4 w0 hg5 (hg4.closed c1)
            exact ⟨w0, by rw [get_upd, if_pos hh, husd k hdk]; exact hg6, n2', n1⟩
  · intro s v' hs hv'
    obtain ⟨g1, g2, hcl⟩ := hclv s v' hs hv'
    exact ⟨g1, g2, closed_okTop hcl, fun u hu => by rw [closed_looks hcl] at hu; cases hu⟩
  · rw [hput]
    have : ¬ (d = some s) := fun e => by
      have := (hasus s).2 (.inl e)
      rw [hs] at this; cases this
    rw [if_neg (fun hh => this hh.1)]
  · intro s v' k r hs hn hl hk hdead
    obtain ⟨kk, rr, e1, e2⟩ := S.look s v' _ hs hl
    injection e1 with e1 e1'
    subst e1 e1'
    exact hstay k r hk e2 (by unfold deadV at hdead; rw [hl] at hdead; exact hdead)
end
end Go.Proofs.Bw
namespace Go.Proofs.Bw
open Go

section
variable {P : Program} {R : Type} {σ : Sg} {h : Hp} {st : St} {a : Act} {w : World} {K : St → List Tag → Option R} {r : R} {o : Oper} {Q : Exit → Act → World → Prop}
theorem contains_false {l : List Nat} {d : Nat} (h : l.contains d = false) : d ∉ l := fun hm => by
  rw [List.contains_iff_mem.2 hm] at h; cases h
def callK (g : Nat → Option SV) (sp : FSpec) (as : List Arg) (d : Option Nat) (K : St → List Tag → Option R) (z : sp.r.den) (us : St) (ks : List Tag) : Option R := match d with
  | some d => bif fresh g d && sp.r.closed && !((us.map (·.1)).contains d) && !headIn (lentTags g as) d then K ((d, some ⟨sp.r, z⟩) :: us) ks else none
  | none => K us ks
theorem op_callS {d : Option Nat} {sp : FSpec} {as : List Arg} {xs : Array Operand} {ts : Array TypeId} (hs : Meets P sp) (hok : spOk sp = true) (S : SRel σ h st a.tmps w)
    (hop : o.op = .call { callee := .value (.func sp.f), args := xs, argTypes := ts }) (hdst : o.dst = d) (hdn : ∀ d', d = some d' → d' < a.tmps.size) (hargs : argOk as xs.toList = true)
    (hK : callEv st.get d sp as K = some r) :
    o.wp P a w (fun a' w' => ∃ σ' h' us ks, K us ks = some r ∧ Ext w σ h w' σ' h' ∧ SStep h st a.tmps us ks σ' h' a'.tmps w' ∧ Stay h h' st us ks ∧ a'.defers = a.defers ∧ a'.tmps.size = a.tmps.size) Q := by
  simp only [callEv] at hK
  obtain ⟨hc, hK⟩ := bif_some hK
  simp only [Bool.and_eq_true, Bool.or_eq_true, Bool.not_eq_true'] at hc
  obtain ⟨⟨hap, hvw⟩, hsh⟩ := hc
  rw [argsK_nat] at hK
  cases hx : argsK st.get sp.ps as some with
  | none => rw [hx] at hK; cases hK
  | some x =>
    rw [hx] at hK
    simp only [Option.bind_some] at hK
    cases hy : sp.run x with
    | none => rw [hy] at hK; cases hK
    | some y =>
      rw [hy] at hK
      simp only [Option.bind_some] at hK
      have hbk := (N_backK (g := st.get) sp.ps as sp.r y [] []) R (fun p => callK st.get sp as d K p.1 p.2.1 p.2.2)
      have hK' : backK st.get sp.ps as sp.r y [] [] (fun z us ks => callK st.get sp as d K z us ks) = some r := hK
      clear hK
      have hK := hbk.symm.trans hK'
      clear hK' hbk
      replace hK : (backK st.get sp.ps as sp.r y [] [] (fun x us ks => some (x, us, ks))).bind (fun p => callK st.get sp as d K p.1 p.2.1 p.2.2) = some r := hK
      cases hb : backK st.get sp.ps as sp.r y [] [] (fun x us ks => some (x, us, ks)) with
      | none => rw [hb] at hK; cases hK
      | some q =>
        obtain ⟨z, us, ks⟩ := q
        rw [hb] at hK
        simp only [Option.bind_some] at hK
        obtain ⟨us2, hus2, hK2, hd⟩ : ∃ us2, (us2 = match d with | some d' => (d', some ⟨sp.r, z⟩) :: us | none => us) ∧ K us2 ks = some r ∧ (∀ d', d = some d' → fresh st.get d' = true ∧ headIn (lentTags st.get as) d' = false ∧ d' < a.tmps.size) := by
          cases d with
          | none => exact ⟨us, rfl, hK, fun d' e => by cases e⟩
          | some d' =>
            obtain ⟨hc, hK⟩ := bif_some (show (bif fresh st.get d' && sp.r.closed && !((us.map (·.1)).contains d') && !headIn (lentTags st.get as) d' then K ((d', some ⟨sp.r, z⟩) :: us) ks else none) = some r from hK)
            simp only [Bool.and_eq_true, Bool.not_eq_true'] at hc
            refine ⟨_, rfl, hK, fun d'' e => ?_⟩
            injection e with e
            subst e
            exact ⟨hc.1.1.1, hc.2, hdn _ rfl⟩
        have hfree : shares st.get as = true → sp.r.free = true ∧ lentFree sp.ps = true := fun hh => by
          rcases hsh with hsh | hsh
          · rw [hh] at hsh; cases hsh
          · exact hsh
        obtain ⟨hsz, hcal⟩ := callee_rel S hok hap hargs hx hvw
        have hcalls := hs.ok x y hy _ _ w _ hsz hcal
        unfold Oper.wp
        rcases hcalls with ⟨hent, hcalls⟩ | ⟨v, w', hv, he⟩
        · rw [exec_call hent hop, Oper.upon_enter]
          refine hcalls.mono ?_
          intro e w' he
          cases e with
          | returned v =>
            obtain ⟨σ', h1, E, S1⟩ := he
            obtain ⟨σ2, h2, E2, St2, Y2⟩ := caller_rel S hok hap hargs hx hb hfree E S1 hd (us2 := us2) (by cases d with | none => exact hus2 | some d' => exact hus2)
            refine ⟨σ2, h2, us2, ks, hK2, E2, by rw [hdst]; exact St2, Y2, ?_, ?_⟩
            · cases hh : o.dst <;> rfl
            · cases hh : o.dst <;> simp [Act.put]
          | panicked _ => exact he.elim
          | outgrown => exact he.elim
        · rw [exec_callV hv hop, Oper.upon_value]
          obtain ⟨σ', h1, E, S1⟩ := he
          obtain ⟨σ2, h2, E2, St2, Y2⟩ := caller_rel S hok hap hargs hx hb hfree E S1 hd (us2 := us2) (by cases d with | none => exact hus2 | some d' => exact hus2)
          refine ⟨σ2, h2, us2, ks, hK2, E2, by rw [hdst]; exact St2, Y2, ?_, ?_⟩
          · cases hh : o.dst <;> rfl
          · cases hh : o.dst <;> simp [Act.put]
theorem op_call {d : Option Nat} {sp : FSpec} {as : List Arg} {xs : Array Operand} {ts : Array TypeId} (hs : Meets P sp) (hok : spOk sp = true) (S : SRel σ h st a.tmps w)
    (hop : o.op = .call { callee := .value (.func sp.f), args := xs, argTypes := ts }) (hdst : o.dst = d) (hdn : ∀ d', d = some d' → d' < a.tmps.size) (hargs : argOk as xs.toList = true)
    (hK : evOp st.get K (.call d sp as) = some r) : o.wp P a w (Post σ h w st K r a) Q := by
  simp only [evOp] at hK
  refine Oper.wp_mono ?_ (op_callS hs hok S hop hdst hdn hargs hK)
  rintro a' w' ⟨σ', h', us, ks, k1, k2, k3, _, k4, k5⟩
  exact ⟨σ', h', us, ks, k1, k2, k3, k4, k5⟩
/-! what looks at types alone -/
theorem ptrK_to {α β : Type} {g : Nat → Option SV} {u : Tag} {o st m : Nat} {p : Tag} {i : Int} {F : Nat → Tag → Nat → Nat → Nat → Tag → Int → SV → Ty → Option α} {F' : Nat → Tag → Nat → Nat → Nat → Tag → Int → SV → Ty → Option β} {z : α} {y : β}
    (h : ptrK g (some ⟨.ptr u o st m p, i⟩) F = some z) (hF : ∀ s q o st m p i r C, hasIdx q = false → F s q o st m p i r C = some z → F' s q o st m p i r C = some y) : ptrK g (some ⟨.ptr u o st m p, i⟩) F' = some y := by
  unfold ptrK at h ⊢
  rcases u with _ | ⟨s, q⟩
  · cases h
  · simp only at h ⊢
    cases hg : g s with
    | none => rw [hg] at h; cases h
    | some r =>
      rw [hg] at h
      simp only at h ⊢
      cases hq : hasIdx q with
      | true => rw [hq] at h; cases h
      | false =>
        rw [hq] at h
        simp only [cond_false] at h ⊢
        cases ht : tyAt r.T (q ++ [0]) with
        | none => rw [ht] at h; cases h
        | some C =>
          rw [ht] at h
          simp only at h ⊢
          cases ho : offAt C p with
          | none => rw [ho] at h; cases h
          | some x =>
            obtain ⟨a, b, c⟩ := x
            rw [ho] at h
            simp only at h ⊢
            obtain ⟨hc, h⟩ := bif_some h
            rw [hc, cond_true]
            exact hF _ _ _ _ _ _ _ _ _ hq h
theorem getK_ty {β : Type} : ∀ {p : Tag} {T U : Ty} {x : T.den} {i : Int}, tyAt T p = some U → hasIdx p = false → ∃ y : U.den, ∀ K : SV → Option β, getK T x p i K = K ⟨U, y⟩
  | [], T, U, x, i, h, _ => by
    have e : tyAt T [] = some T := by cases T <;> rfl
    rw [e] at h
    injection h with h
    subst h
    exact ⟨x, fun K => by cases T <;> rfl⟩
  | k :: p, T, U, x, i, h, hi => by
    simp only [hasIdx, Bool.or_eq_false_iff] at hi
    cases T
    case box e =>
      rcases k with _ | k
      · exact getK_ty (T := e) h hi.2
      · cases h
    case pair a b =>
      rcases k with _ | _ | _ | k
      · cases h
      · exact getK_ty (T := a) h hi.2
      · exact getK_ty (T := b) h hi.2
      · cases h
    case arr n e =>
      rcases k with _ | _ | _ | _ | k
      · cases h
      · cases h
      · cases h
      · simp at hi
      · cases h
    all_goals cases h
theorem hasIdx_app {p q : Tag} : hasIdx (p ++ q) = (hasIdx p || hasIdx q) := by
  induction p with
  | nil => rfl
  | cons k p ih => simp only [List.cons_append, hasIdx, ih, Bool.or_assoc]
theorem shp_ev {g : Nat → Option SV} {R : Type} {K : St → List Tag → Option R} {r : R} {d : Nat} {o : ShOp} {v : SV} (h : shV g o = some v) (hK : put g d v K = some r) : evOp g K (o.toX d) = some r := by
  cases o with
  | bor s =>
    simp only [shV] at h
    split at h
    · rename_i e x hg
      injection h with h
      subst h
      obtain ⟨hf, hK⟩ := put_some hK
      simp only [ShOp.toX, evOp, hg, hf, cond_true]
      exact hK
    · rename_i u o st m p i hg
      injection h with h
      subst h
      obtain ⟨hf, hK⟩ := put_some hK
      simp only [ShOp.toX, evOp, hg, hf, cond_true]
      exact hK
    · cases h
  | nc a =>
    simp only [shV] at h
    split at h
    · rename_i u o st m p i hg
      injection h with h
      subst h
      simp only [ShOp.toX, evOp, gpo, hg]
      exact hK
    · cases h
  | fa a n off =>
    simp only [shV] at h
    split at h
    · rename_i u o st m p i hg
      simp only [ShOp.toX, evOp, hg]
      refine ptrK_to h fun s q po st m p i r C _ hh => ?_
      split at hh
      · split at hh
        · obtain ⟨hc, hh⟩ := bif_some hh
          injection hh with hh
          subst hh
          simp only [hc, cond_true]
          exact hK
        · cases hh
      · cases hh
    · cases h
  | ld a sz ag =>
    simp only [shV] at h
    split at h
    · rename_i u o st m p i hg
      obtain ⟨hf, hK⟩ := put_some hK
      simp only [ShOp.toX, evOp, hg]
      refine ptrK_to h fun s q po st m p i r C hq hh => ?_
      obtain ⟨hp, hh⟩ := bif_none hh
      split at hh
      · rename_i e ht
        obtain ⟨hc, hh⟩ := bif_some hh
        injection hh with hh
        subst hh
        obtain ⟨y, hy⟩ := getK_ty (β := _) (x := r.x) (i := i) ht (by rw [hasIdx_app, hasIdx_app, hq, hp]; rfl)
        rw [hf, cond_true, hy]
        simp only [hc, cond_true]
        exact hK
      · rename_i ht
        obtain ⟨hc, hh⟩ := bif_some hh
        injection hh with hh
        subst hh
        obtain ⟨y, hy⟩ := getK_ty (β := _) (x := r.x) (i := i) ht (by rw [hasIdx_app, hasIdx_app, hq, hp]; rfl)
        rw [hf, cond_true, hy]
        simp only [hc, cond_true]
        exact hK
      · cases hh
    · cases h
end
end Go.Proofs.Bw

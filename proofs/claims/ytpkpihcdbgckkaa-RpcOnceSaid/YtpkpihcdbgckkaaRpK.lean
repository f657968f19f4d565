/- RpcOnce: what is asked once is taken once. -/
import Derived.Test.YtpkpihcdbgckkaaRpE
set_option linter.unusedVariables false
set_option linter.unusedSimpArgs false
namespace Go.Proofs.Ytpkpihcdbgckkaa.S
open Go Go.Proofs Go.Proofs.Bw

def ask1 (q : Int) (b : List Int) : DPacket := (1, 1, 0, 0, q, b, ())
theorem Call_1 (n : Nat) (q s l : Int) (b t : List Int) (hq : 0 ≤ q) (hq2 : q < 100) :
    rpc_Caller_Call.f n (some (cal (ask1 q b) false s l)) t = some (if (16384 : Int) < t.length then (some (cal (ask1 q b) false s l), 3) else (some (cal (ask1 (q + 1) t) true 0 0), 0)) := by
  have hw : IntKind.u32.wrap (q + 1) = q + 1 := by rw [u32_wrap]; omega
  simp only [rpc_Caller_Call.f, rpc_Caller_Call.j1, cal, optM, ask1]
  by_cases h1 : (16384 : Int) < t.length
  · simp [h1]
  · have : ¬ q = 4294967295 := by omega
    simp [h1, this, hw]
theorem Cancel_1 (n : Nat) (a : DPacket) (s l : Int) : rpc_Caller_Cancel.f n (some (cal a true s l)) = some (some (cal a false s l), 0) := rfl
theorem Tick_1 (n : Nat) (a : DPacket) : rpc_Caller_Tick.f n (some (cal a true 0 0)) 0 = some (some (cal a true 1 0), a, true, ()) := by
  rw [Tick_run]
  rfl
/-- what was sent -/
def Sent (ps : List DPacket) : Prop := ∀ (j : Nat) (e : DPacket), ps[j]? = some e → ∃ b : List Int, e = ask1 ((j : Int) + 1) b ∧ (b.length : Int) ≤ 16384
def Took (len : Nat) (e : Dpast) (m : Int) (tk : List Int) : Prop :=
  ((e.1 = 0 ∧ m = 0) ∨ (1 ≤ e.1 ∧ e.2.1 = 0 ∧ e.2.2.1 = m ∧ 0 ≤ m)) ∧ tk.length = len + 1 ∧ ∀ (j : Nat) (x : Int), tk[j]? = some x → 0 ≤ x ∧ x ≤ 1 ∧ (m < (j : Int) → x = 0)
theorem last_loop (n : Nat) (tk : List Int) (h : ∀ (j : Nat) (x : Int), tk[j]? = some x → x ≤ 1) (hl : (tk.length : Int) < 1000) : ∀ (d k i : Nat), d + i = tk.length → d < k → law11_RpcOnce.l4 n k tk (i : Int) = some true := by
  intro d
  induction d with
  | zero =>
    intro k i hi hk
    obtain ⟨k, rfl⟩ : ∃ m, k = m + 1 := ⟨k - 1, by omega⟩
    have : ¬ ((i : Int) < (tk.length : Int)) := by omega
    simp [law11_RpcOnce.l4, this, law11_RpcOnce.j3, live_ok]
  | succ d ih =>
    intro k i hi hk
    obtain ⟨k, rfl⟩ : ∃ m, k = m + 1 := ⟨k - 1, by omega⟩
    have hlt : i < tk.length := by omega
    have : ((i : Int) < (tk.length : Int)) := by omega
    have hx := List.getElem?_eq_getElem hlt
    have h1 := h i _ hx
    have hw : IntKind.i64.wrap ((i : Int) + 1) = ((i + 1 : Nat) : Int) := by rw [i64_wrap (by omega) (by omega)]; omega
    simp only [law11_RpcOnce.l4, decide_eq_true this, cond_true]
    rw [idxK_at (by omega) (show tk[((i : Int)).toNat]? = some tk[i] by rw [Int.toNat_natCast]; exact hx), decide_eq_false (by omega)]
    simp only [cond_false, law11_RpcOnce.j5, hw]
    exact ih k (i + 1) (by omega) (by omega)
theorem took_set {len : Nat} {e e' : Dpast} {m : Int} {tk : List Int} (T : Took len e m tk) (j : Nat) (hj : j < len) (h : e.1 = 0 ∨ m < (j : Int) + 1) (h1 : 1 ≤ e'.1) (h2 : e'.2.1 = 0) (h3 : e'.2.2.1 = (j : Int) + 1) :
    Took len e' ((j : Int) + 1) (tk.set (j + 1) 1) := by
  obtain ⟨t1, t2, t3⟩ := T
  refine ⟨.inr ⟨h1, h2, h3, by omega⟩, by simpa using t2, fun i x hx => ?_⟩
  by_cases hi : i = j + 1
  · subst hi
    have : (tk.set (j + 1) 1)[j + 1]? = some 1 := by simp [t2, hj]
    rw [this] at hx; injection hx with hx; subst hx
    exact ⟨by decide, by decide, fun hh => by omega⟩
  · rw [List.getElem?_set_ne (by omega)] at hx
    obtain ⟨a, b, c⟩ := t3 i x hx
    refine ⟨a, b, fun hh => c ?_⟩
    rcases t1 with ⟨_, hm⟩ | ⟨_, _, _, hm⟩
    · omega
    · rcases h with h | h
      · rename_i h0; omega
      · omega
theorem right_1 {q : Int} {b : List Int} (hq : 0 < q) (hb : (b.length : Int) ≤ 16384) : rightB (ask1 q b) = true := by
  simp [rightB, ask1, hq, hb]
theorem order_loop (n : Nat) (xs : List Int) (hx : ∀ x ∈ xs, 0 ≤ x ∧ x < 256) (ps : List DPacket) (hps : Sent ps) (hlen : ps.length ≤ 12) (hn : 50 ≤ n) :
    ∀ (d k i : Nat) (l : List Dpast) (e : Dpast) (m : Int) (tk : List Int), l.length = 3 → l[0]? = some e → Took ps.length e m tk → i ≤ 60 → d + i = 60 → d < k →
      law11_RpcOnce.l6 n k xs (l, ()) ps tk (i : Int) = some true := by
  have fin : ∀ (e : Dpast) (m : Int) (tk : List Int), Took ps.length e m tk → law11_RpcOnce.j2 n tk = some true := fun e m tk T => by
    simp only [law11_RpcOnce.j2]
    exact last_loop n tk (fun j x hh => (T.2.2 j x hh).2.1) (by have := T.2.1; omega) tk.length n 0 (by omega) (by have := T.2.1; omega)
  intro d
  induction d with
  | zero =>
    intro k i l e m tk hl he T hi hd hk
    obtain ⟨k, rfl⟩ : ∃ m, k = m + 1 := ⟨k - 1, by omega⟩
    have h1 : ¬ ((i : Int) < 60) := by omega
    simp only [law11_RpcOnce.l6, decide_eq_false h1]
    cases decide ((i : Int) < (xs.length : Int)) <;> simp [fin e m tk T]
  | succ d ih =>
    intro k i l e m tk hl he T hi hd hk
    obtain ⟨k, rfl⟩ : ∃ m, k = m + 1 := ⟨k - 1, by omega⟩
    have h1 : ((i : Int) < 60) := by omega
    simp only [law11_RpcOnce.l6, decide_eq_true h1]
    by_cases h2 : (i : Int) < (xs.length : Int)
    · by_cases h3 : (0 : Int) < (ps.length : Int)
      · have hlt : i < xs.length := by omega
        have hxe := List.getElem?_eq_getElem hlt
        generalize xs[i] = x at hxe
        have hxr := hx x (List.mem_of_getElem? hxe)
        have hw : IntKind.i64.wrap x = x := i64_wrap (by omega) (by omega)
        obtain ⟨j, hj, hje⟩ : ∃ j : Nat, Int.tmod x (ps.length : Int) = (j : Int) ∧ j < ps.length := by
          have e0 : Int.tmod x (ps.length : Int) = x % (ps.length : Int) := Int.tmod_eq_emod_of_nonneg hxr.1
          have e1 := Int.emod_nonneg x (show (ps.length : Int) ≠ 0 by omega)
          have e2 := Int.emod_lt_of_pos x (show (0 : Int) < ps.length by omega)
          exact ⟨(x % (ps.length : Int)).toNat, by omega, by omega⟩
        have hpe := List.getElem?_eq_getElem hje
        generalize ps[j] = p at hpe
        obtain ⟨b, rfl, hb⟩ := hps j p hpe
        have hwi : IntKind.i64.wrap ((i : Int) + 1) = ((i + 1 : Nat) : Int) := by rw [i64_wrap (by omega) (by omega)]; omega
        simp only [decide_eq_true h2, decide_eq_true h3, cond_true, Option.bind_some]
        rw [idxK_at (by omega) (by simpa using hxe), nzK_in (by omega), hw, hj, idxK_at (by omega) (by simpa using hpe)]
        have ht := Take_run n l 0 e (ask1 ((j : Int) + 1) b) (fun _ _ => rfl) (by decide) he
        simp only [ask1] at ht ⊢
        rw [ht]
        have hr := right_1 (q := (j : Int) + 1) (b := b) (by omega) hb
        simp only [ask1] at hr
        unfold takeC
        rw [if_pos ⟨rfl, hr⟩]
        by_cases c1 : e.1 = 0 ∨ e.2.1 < 0 ∨ ((0 : Int) = e.2.1 ∧ e.2.2.1 < (j : Int) + 1)
        · rw [if_pos c1]
          have hnew : e.1 = 0 ∨ m < (j : Int) + 1 := by
            rcases T.1 with ⟨h0, _⟩ | ⟨_, h5, h6, _⟩
            · exact .inl h0
            · rcases c1 with c | c | c
              · exact .inl c
              · omega
              · omega
          have hwq : IntKind.i64.wrap ((j : Int) + 1) = (j : Int) + 1 := i64_wrap (by omega) (by omega)
          have htl := T.2.1
          have hjt : j + 1 < tk.length := by omega
          have hte := List.getElem?_eq_getElem hjt
          generalize tk[j + 1] = t at hte
          have ht0 : t = 0 := (T.2.2 (j + 1) t hte).2.2 (by
            rcases T.1 with ⟨h0, hm⟩ | ⟨h0, _⟩
            · omega
            · rcases hnew with h | h
              · omega
              · omega)
          subst ht0
          have hne : ((j : Int) + 1).toNat = j + 1 := by omega
          simp only [Option.bind_some, Bool.not_true, cond_false, hwq, decide_eq_false (show ¬ ((j : Int) + 1 < 1) by omega), decide_eq_false (show ¬ ((ps.length : Int) < (j : Int) + 1) by omega), decide_true]
          rw [inK'_in (by omega) (by omega), idxK_at (by omega) (by rw [hne]; exact hte), inK'_in (by omega) (by omega), idxK_at (by omega) (by rw [hne]; exact hte), idxK_at (by omega) (by simpa using hxe), nzK_in (by decide)]
          have hl' : ∀ y : Dpast, (l.set 0 y)[0]? = some y := fun y => by simp [hl]
          have hset : lset tk ((j : Int) + 1) (IntKind.i64.wrap ((0 : Int) + 1)) = tk.set (j + 1) 1 := by
            unfold lset; rw [hne]; rfl
          rw [hset]
          cases hd3 : decide (Int.tmod x 3 = 0) with
          | true =>
            have hra := Reply_A n (l.set 0 (1, 0, (j : Int) + 1, [], ())) 0 (1, 0, (j : Int) + 1, [], ()) 1 [100, 111, 110, 101] (by decide) (fun _ _ => rfl) (by decide) (hl' _)
            simp only [cond_true, hra, Option.bind_some, law11_RpcOnce.j7, hwi]
            unfold replyO
            rw [if_neg (by decide), if_neg (by simp), if_neg (by decide)]
            exact ih k (i + 1) _ (2, 0, (j : Int) + 1, [100, 111, 110, 101], ()) ((j : Int) + 1) _ (by simp [hl]) (by simp [hl]) (took_set T j hje hnew (by simp) rfl rfl) (by omega) (by omega) (by omega)
          | false =>
            simp only [cond_false, law11_RpcOnce.j7, hwi]
            exact ih k (i + 1) _ (1, 0, (j : Int) + 1, [], ()) ((j : Int) + 1) _ (by simp [hl]) (by simp [hl]) (took_set T j hje hnew (by simp) rfl rfl) (by omega) (by omega) (by omega)
        · rw [if_neg c1]
          by_cases c2 : e.1 = 2 ∧ (0 : Int) = e.2.1 ∧ (j : Int) + 1 = e.2.2.1
          · rw [if_pos c2]
            simp only [Option.bind_some, Bool.not_false, cond_true, law11_RpcOnce.j7, hwi]
            exact ih k (i + 1) l e m tk hl he T (by omega) (by omega) (by omega)
          · rw [if_neg c2]
            simp only [Option.bind_some, Bool.not_false, cond_true, law11_RpcOnce.j7, hwi]
            exact ih k (i + 1) l e m tk hl he T (by omega) (by omega) (by omega)
      · simp only [decide_eq_false h3, decide_eq_true h2, cond_true, cond_false, Option.bind_some, fin e m tk T]
    · simp [h2, fin e m tk T]
theorem sent_loop (n : Nat) (xs : List Int) (hx : ∀ x ∈ xs, 0 ≤ x ∧ x < 256) (bs : List (List Int)) (hn : 100 ≤ n) :
    ∀ (d k i : Nat) (q : Nat) (b : List Int) (s t : Int) (ps : List DPacket), Sent ps → ps.length = q → q ≤ i → i ≤ 12 → d + i = 12 → d < k →
      law11_RpcOnce.l8 n k bs xs (some (cal (ask1 (q : Int) b) false s t)) (List.replicate 3 ((0 : Int), (0 : Int), (0 : Int), ([] : List Int), ()), ()) ps (i : Int) = some true := by
  have fin : ∀ ps : List DPacket, Sent ps → ps.length ≤ 12 → law11_RpcOnce.j1 n xs (List.replicate 3 ((0 : Int), (0 : Int), (0 : Int), ([] : List Int), ()), ()) ps = some true := fun ps hps hl => by
    have hw : IntKind.i64.wrap ((ps.length : Int) + 1) = (ps.length : Int) + 1 := i64_wrap (by omega) (by omega)
    have ht : ((ps.length : Int) + 1).toNat = ps.length + 1 := by omega
    simp only [law11_RpcOnce.j1, hw, ht, mkK]
    rw [if_pos ⟨by omega, by omega, by omega⟩]
    refine order_loop n xs hx ps hps hl (by omega) 60 n 0 _ (0, 0, 0, [], ()) 0 _ rfl rfl ⟨.inl ⟨rfl, rfl⟩, by simp, fun j x hh => ?_⟩ (by omega) (by omega) (by omega)
    have := (List.mem_replicate.1 (List.mem_of_getElem? hh)).2
    subst this
    exact ⟨by decide, by decide, fun _ => rfl⟩
  intro d
  induction d with
  | zero =>
    intro k i q b s t ps hps hq hqi hi hd hk
    obtain ⟨k, rfl⟩ : ∃ m, k = m + 1 := ⟨k - 1, by omega⟩
    have h1 : ¬ ((i : Int) < 12) := by omega
    simp only [law11_RpcOnce.l8, decide_eq_false h1]
    cases decide ((i : Int) < (bs.length : Int)) <;> simp only [cond_true, cond_false, Option.bind_some] <;> exact fin ps hps (by omega)
  | succ d ih =>
    intro k i q b s t ps hps hq hqi hi hd hk
    obtain ⟨k, rfl⟩ : ∃ m, k = m + 1 := ⟨k - 1, by omega⟩
    have h1 : ((i : Int) < 12) := by omega
    simp only [law11_RpcOnce.l8, decide_eq_true h1]
    by_cases h2 : (i : Int) < (bs.length : Int)
    · have hlt : i < bs.length := by omega
      have hxe := List.getElem?_eq_getElem hlt
      generalize bs[i] = x at hxe
      have hwi : IntKind.i64.wrap ((i : Int) + 1) = ((i + 1 : Nat) : Int) := by rw [i64_wrap (by omega) (by omega)]; omega
      have hc := Call_1 n (q : Int) s t b x (by omega) (by omega)
      simp only [decide_eq_true h2, cond_true, Option.bind_some]
      simp only [cal, ask1, optM] at hc ⊢
      rw [idxK_at (by omega) (by simpa using hxe), hc]
      by_cases h3 : (16384 : Int) < x.length
      · rw [if_pos h3]
        simp only [Option.bind_some, decide_eq_false (show ¬ (3 : Int) = 0 by decide), Bool.not_false, cond_true, law11_RpcOnce.j9, hwi]
        have := ih k (i + 1) q b s t ps hps hq (by omega) (by omega) (by omega) (by omega)
        simpa only [cal, ask1] using this
      · rw [if_neg h3]
        have ht := Tick_1 n (ask1 ((q : Int) + 1) x)
        have hca := Cancel_1 n (ask1 ((q : Int) + 1) x) 1 0
        simp only [cal, ask1] at ht hca
        simp only [Option.bind_some, decide_true, Bool.not_true, cond_false, law11_RpcOnce.j10, optM, ht, hca, law11_RpcOnce.j11]
        rw [appK_in (by simp; omega)]
        simp only [law11_RpcOnce.j9, hwi]
        have hq1 : ((q : Int) + 1) = ((q + 1 : Nat) : Int) := by omega
        have := ih k (i + 1) (q + 1) x 1 0 (ps ++ [ask1 ((q : Int) + 1) x]) (fun j e hj => by
          by_cases hjl : j < ps.length
          · rw [List.getElem?_append_left hjl] at hj
            exact hps j e hj
          · rw [List.getElem?_append_right (by omega)] at hj
            have hj0 : j - ps.length = 0 := by
              have := (List.getElem?_eq_some_iff.1 hj).1
              simp at this; omega
            rw [hj0] at hj
            simp only [List.getElem?_cons_zero, Option.some.injEq] at hj
            have hjq : j = q := by omega
            subst hjq
            exact ⟨x, hj.symm, by omega⟩) (by simp [hq]) (by omega) (by omega) (by omega) (by omega)
        rw [← hq1] at this
        simpa only [cal, ask1] using this
    · simp only [decide_eq_false h2, cond_false, Option.bind_some]
      exact fin ps hps (by omega)
theorem RpcOnce_law (n : Nat) (hn : 100 ≤ n) (bs : List (List Int)) (xs : List Int) (hx : ∀ x ∈ xs, 0 ≤ x ∧ x < 256) : law11_RpcOnce.f n bs xs = some true := by
  have e : law11_RpcOnce.f n bs xs = law11_RpcOnce.l8 n n bs xs (some (cal (ask1 ((0 : Nat) : Int) []) false 0 0)) (List.replicate 3 ((0 : Int), (0 : Int), (0 : Int), ([] : List Int), ()), ()) [] ((0 : Nat) : Int) := by kernel_rfl
  rw [e]
  exact sent_loop n xs hx bs hn 12 n 0 0 [] 0 0 [] (fun j e h => by simp at h) rfl (by omega) (by omega) (by omega) (by omega)
theorem RpcOnce_pure (bs : List (List Int)) (xs : List Int) (h0 : Ty.wf (.slB .U false .str) bs) (h1 : Ty.wf (.slB .U false (.int .u8)) xs) : law11_RpcOnce.f 300000 bs xs = some true := by
  have h2 : allL (Ty.wf (.int .u8)) xs := h1.2
  exact RpcOnce_law _ (by decide) bs xs (fun x hx => u8_in.1 (h2 x hx))
end Go.Proofs.Ytpkpihcdbgckkaa.S

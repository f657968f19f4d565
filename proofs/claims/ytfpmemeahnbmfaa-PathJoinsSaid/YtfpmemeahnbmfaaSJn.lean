/- strings.Join keeps the library's contract: by the kit's own contract of it. -/
import Derived.Room.Shelf.Join48
import Derived.Test.YtfpmemeahnbmfaaBw4
import Derived.Test.YtfpmemeahnbmfaaProg
namespace Go.Proofs.Bw
open Go Go.RowKit Go.Shelf
theorem joinV_eq (g : UInt8 → Int) (sep : List UInt8) : ∀ xs : List (List UInt8), (Lib.join xs sep).map g = joinV (xs.map (·.map g)) (sep.map g)
  | [] => rfl
  | [x] => by rw [Lib.join_one]; rfl
  | x :: y :: r => by
    have h := joinV_eq g sep (y :: r)
    have e : Lib.join (x :: y :: r) sep = x ++ sep ++ Lib.join (y :: r) sep := by simp [Lib.join, List.intercalate, List.intersperse]
    rw [e, List.map_append, List.map_append, h]
    rfl
theorem elist_strs : ∀ {l : List (List Int)} {d : List Value}, EList (fun y c => ∃ s : ByteArray, c = [Value.string s] ∧ ints s = y ∧ s.size ≤ maxLen) l d → ∃ xs : List ByteArray, d = xs.map .string ∧ xs.map ints = l
  | [], d, e => ⟨[], by simpa [EList] using e, rfl⟩
  | y :: l, d, e => by
    obtain ⟨c, d', rfl, hc, hd⟩ := e
    obtain ⟨xs, rfl, rfl⟩ := elist_strs hd
    obtain ⟨s, rfl, hs, _⟩ := hc
    exact ⟨s :: xs, rfl, by simp [hs]⟩
theorem join_meets {P : Program} {ρ : Ren} (L : Lays.n156 P ρ) (X : Builder.Extra P ρ) {f : FuncId} (hf : ρ.f 156 = f) : Meets P (joinSp f) :=
  ⟨fun x y hx σ h w args hsz S => by
    obtain ⟨l, sx, u⟩ := x
    obtain ⟨l, rfl⟩ : ∃ l' : List (List Int), l' = l := ⟨l, rfl⟩
    obtain ⟨sx, rfl⟩ : ∃ l' : List Int, l' = sx := ⟨sx, rfl⟩
    obtain ⟨y, rfl⟩ : ∃ l' : List Int, l' = y := ⟨y, rfl⟩
    change joinK l sx = some y at hx
    simp only [joinK] at hx
    split at hx
    case isFalse => cases hx
    rename_i hle
    injection hx with hx
    simp only [joinSp] at hsz S
    obtain ⟨_, k0⟩ := S.vals 0 ⟨.slB .U false .str, l⟩ (by simp [initSt, get_cons])
    obtain ⟨_, k1⟩ := S.vals 1 ⟨.str, sx⟩ (by simp [initSt, get_cons])
    obtain ⟨sep, e1, hs, hsl⟩ := VRel.str_eq k1
    obtain ⟨cs, hw, hr⟩ := k0
    simp only [Rel] at hr
    obtain ⟨a, len, cap, e0, ho, hlen, _, d, hel, hd⟩ := hr
    obtain ⟨xs, rfl, hxs⟩ := elist_strs hel
    have e0 : args.getD 0 undef = .slice a len cap := by have := slot_single rfl hw; rw [this] at e0; injection e0
    have hargs : args = #[.slice a len cap, .string sep] := by
      apply Array.ext
      · simpa using hsz
      · intro i h1 h2
        simp [Array.getD_eq_getD_getElem?] at e0 e1
        have : i = 0 ∨ i = 1 := by simp at h2; omega
        rcases this with rfl | rfl
        · have h3 : args[0]? = some args[0] := Array.getElem?_eq_getElem h1
          rw [h3] at e0; simpa using e0
        · have h3 : args[1]? = some args[1] := Array.getElem?_eq_getElem h1
          rw [h3] at e1; simpa using e1
    have hlx : len = xs.length := by rw [hlen]; show l.length = _; rw [← hxs]; simp
    have hv : joinV l sx = (Lib.join (xs.map (·.data.toList)) sep.data.toList).map fun b => (b.toNat : Int) := by
      rw [joinV_eq, List.map_map, ← hxs]
      have hs' : sx = sep.data.toList.map fun b => (b.toNat : Int) := hs.symm
      rw [hs']
      rfl
    have hjl : (Lib.join (xs.map (·.data.toList)) sep.data.toList).length ≤ 281474976710656 := by
      have := hle.2
      rw [hv, List.length_map] at this
      exact this
    have hll : xs.length ≤ 140737488355328 := by have := hle.1; rw [← hxs] at this; simpa using this
    refine .inl ⟨⟨Body.n156 ρ, by rw [show (joinSp f).f = ρ.f 156 from hf.symm]; exact L.f156, rfl, by kernel_rfl⟩, ?_⟩
    have hfin : ∀ (w' : World), Below w.heap.size w w' → ∃ σ' h', Ext w σ h w' σ' h' ∧ SRel σ' h' (finSt 0 (joinSp f).ps (joinSp f).r y) (args.push (.string ⟨(Lib.join (xs.map (·.data.toList)) sep.data.toList).toArray⟩)) w' := fun w' hb => by
      refine fin2 (r := .str) (y := y) rfl rfl rfl S hsz hb ⟨_, rfl, ?_⟩
      simp only [Rel]
      refine ⟨_, rfl, ?_, ?_⟩
      · rw [← hx, hv]; rfl
      · have h2 : maxLen = 9223372036854775807 := rfl
        show (Lib.join (xs.map (·.data.toList)) sep.data.toList).toArray.size ≤ maxLen
        rw [List.size_toArray]
        omega
    have hcall : Calls P (ρ.f 156) args w fun e w' => e = .returned (.string ⟨(Lib.join (xs.map (·.data.toList)) sep.data.toList).toArray⟩) ∧ Below w.heap.size w w' := by
      rw [hargs, hlx]
      cases hxs0 : xs with
      | nil =>
        refine (Any.strings_Join_none L X a cap sep w).mono fun e w' ⟨he, hw'⟩ => ⟨by rw [he]; rfl, hw' ▸ Below.refl _ _⟩
      | cons z r =>
        obtain ⟨b, off, rfl, hcell⟩ := hd (by rw [hxs0]; simp)
        rw [← hxs0]
        have hc : ∀ (j : Nat) x, xs[j]? = some x → σ b (off + j) = some (.string x) := fun j x hj => hcell j _ (by simp [hj])
        exact Any.strings_Join_48 L X b off cap xs sep w (fun j x hj => S.inv.sta _ _ _ (hc j x hj)) (S.inv.ltσ (hc 0 z (by rw [hxs0]; rfl))) hll (hlx ▸ ho.1) hjl
    rw [show (joinSp f).f = ρ.f 156 from hf.symm]
    exact hcall.mono fun e w' ⟨he, hb⟩ => by rw [he]; exact hfin w' hb⟩
end Go.Proofs.Bw
namespace Go.Proofs.Ytfpmemeahnbmfaa.S
open Go Go.Proofs Go.Proofs.Bw Go.Shelf
set_option maxRecDepth 100000
def jren : Ren := ⟨fun | 156 => 19 | 165 => 24 | 166 => 25 | 169 => 26 | 240 => 29 | 241 => 30 | 276 => 33 | 277 => 34 | n => n, fun | 31 => 22 | 9 => 9 | 3 => 3 | 4 => 4 | 0 => 0 | 20 => 20 | 72 => 47 | 76 => 51 | 70 => 44 | 37 => 45 | 75 => 50 | 127 => 54 | 164 => 56 | 5 => 5 | 80 => 53 | n => n, fun n => n⟩
theorem jlays : Lays.n156 Try.prog jren where
  mixed := by kernel_rfl
  f156 := Try.func19.trans (congrArg some (by kernel_rfl))
  f165 := Try.func24.trans (congrArg some (by kernel_rfl))
  f166 := Try.func25.trans (congrArg some (by kernel_rfl))
  f169 := Try.func26.trans (congrArg some (by kernel_rfl))
  f240 := Try.func29.trans (congrArg some (by kernel_rfl))
  f241 := Try.func30.trans (congrArg some (by kernel_rfl))
  f276 := Try.func33.trans (congrArg some (by kernel_rfl))
  f277 := Try.func34.trans (congrArg some (by kernel_rfl))
  t0 := Try.underlying0
  a0 := Try.isAgg0
  z0 := Try.sizeOf0
  v0 := Try.zeroValue0
  t3 := Try.underlying3
  a3 := Try.isAgg3
  z3 := Try.sizeOf3
  v3 := Try.zeroValue3
  t4 := Try.underlying4
  a4 := Try.isAgg4
  z4 := Try.sizeOf4
  v4 := Try.zeroValue4
  t9 := Try.underlying9
  a9 := Try.isAgg9
  z9 := Try.sizeOf9
  v9 := Try.zeroValue9
  t20 := Try.underlying20
  a20 := Try.isAgg20
  z20 := Try.sizeOf20
  v20 := Try.zeroValue20
  t31 := Try.underlying22
  a31 := Try.isAgg22
  z31 := Try.sizeOf22
  v31 := Try.zeroValue22
  t37 := Try.underlying45
  a37 := Try.isAgg45
  z37 := Try.sizeOf45
  v37 := Try.zeroValue45
  t70 := Try.underlying44
  a70 := Try.isAgg44
  z70 := Try.sizeOf44
  v70 := Try.zeroValue44
  t72 := Try.underlying47
  a72 := Try.isAgg47
  z72 := Try.sizeOf47
  v72 := Try.zeroValue47
  t75 := Try.underlying50
  a75 := Try.isAgg50
  z75 := Try.sizeOf50
  v75 := Try.zeroValue50
  t76 := Try.underlying51
  a76 := Try.isAgg51
  z76 := Try.sizeOf51
  v76 := Try.zeroValue51
  t127 := Try.underlying54
  a127 := Try.isAgg54
  z127 := Try.sizeOf54
  v127 := Try.zeroValue54
  t164 := Try.underlying56
  a164 := Try.isAgg56
  z164 := Try.sizeOf56
  v164 := Try.zeroValue56
theorem jextra : Builder.Extra Try.prog jren where
  sizeBuilder := by kernel_rfl
  liesBuilder := by kernel_rfl
  t5 := Try.underlying5
  a5 := Try.isAgg5
  z5 := Try.sizeOf5
  v5 := Try.zeroValue5
  infoByte := by kernel_rfl
  cellsByte := by kernel_rfl
  sizeByte := by kernel_rfl
  neB5 := by decide
theorem join_meets_seat : Meets Try.prog (joinSp 19) := join_meets jlays jextra rfl
end Go.Proofs.Ytfpmemeahnbmfaa.S

/- strings.Join keeps the library's contract: by the kit's own contract of it. -/
import Derived.Room.Shelf.Join48
import Derived.Test.YtfpmemeahnbmfaaDoorBw4
import Derived.Test.YtfpmemeahnbmfaaDoorProg
namespace Go.Proofs.Bw
open Go Go.RowKit Go.Shelf
theorem joinV_eq (g : UInt8 → Int) (sep : List UInt8) : ∀ xs : List (List UInt8), (Lib.join xs sep).map g = joinV (xs.map (·.map g)) (sep.map g)
  | [] => rfl
  | [x] => by rw [Lib.join_one]; rfl
  | x :: y :: r => by
    have h := joinV_eq g sep (y :: r)
    have e : Lib.join (x :: y :: r) sep = x ++ sep ++ Lib.join (y :: r) sep := by simp [Lib.join, List.intercalate, List.intersperse]
    rw [e, List.map_append, List.map_append, h]
    rfl
theorem elist_strs : ∀ {l : List (List Int)} {d : List Value}, EList (fun y c => ∃ s : ByteArray, c = [Value.string s] ∧ ints s = y ∧ s.size ≤ maxLen) l d → ∃ xs : List ByteArray, d = xs.map .string ∧ xs.map ints = l
  | [], d, e => ⟨[], by simpa [EList] using e, rfl⟩
  | y :: l, d, e => by
    obtain ⟨c, d', rfl, hc, hd⟩ := e
    obtain ⟨xs, rfl, rfl⟩ := elist_strs hd
    obtain ⟨s, rfl, hs, _⟩ := hc
    exact ⟨s :: xs, rfl, by simp [hs]⟩
theorem join_meets {P : Program} {ρ : Ren} (L : Lays.n156 P ρ) (X : Builder.Extra P ρ) {f : FuncId} (hf : ρ.f 156 = f) : Meets P (joinSp f) :=
  ⟨fun x y hx σ h w args hsz S => by
    obtain ⟨l, sx, u⟩ := x
    obtain ⟨l, rfl⟩ : ∃ l' : List (List Int), l' = l := ⟨l, rfl⟩
    obtain ⟨sx, rfl⟩ : ∃ l' : List Int, l' = sx := ⟨sx, rfl⟩
    obtain ⟨y, rfl⟩ : ∃ l' : List Int, l' = y := ⟨y, rfl⟩
    change joinK l sx = some y at hx
    simp only [joinK] at hx
    split at hx
    case isFalse => cases hx
    rename_i hle
    injection hx with hx
    simp only [joinSp] at hsz S
    obtain ⟨_, k0⟩ := S.vals 0 ⟨.slB .U false .str, l⟩ (by simp [initSt, get_cons])
    obtain ⟨_, k1⟩ := S.vals 1 ⟨.str, sx⟩ (by simp [initSt, get_cons])
    obtain ⟨sep, e1, hs, hsl⟩ := VRel.str_eq k1
    obtain ⟨cs, hw, hr⟩ := k0
    simp only [Rel] at hr
    obtain ⟨a, len, cap, e0, ho, hlen, _, d, hel, hd⟩ := hr
    obtain ⟨xs, rfl, hxs⟩ := elist_strs hel
    have e0 : args.getD 0 undef = .slice a len cap := by have := slot_single rfl hw; rw [this] at e0; injection e0
    have hargs : args = #[.slice a len cap, .string sep] := by
      apply Array.ext
      · simpa using hsz
      · intro i h1 h2
        simp [Array.getD_eq_getD_getElem?] at e0 e1
        have : i = 0 ∨ i = 1 := by simp at h2; omega
        rcases this with rfl | rfl
        · have h3 : args[0]? = some args[0] := Array.getElem?_eq_getElem h1
          rw [h3] at e0; simpa using e0
        · have h3 : args[1]? = some args[1] := Array.getElem?_eq_getElem h1
          rw [h3] at e1; simpa using e1
    have hlx : len = xs.length := by rw [hlen]; show l.length = _; rw [← hxs]; simp
    have hv : joinV l sx = (Lib.join (xs.map (·.data.toList)) sep.data.toList).map fun b => (b.toNat : Int) := by
      rw [joinV_eq, List.map_map, ← hxs]
      have hs' : sx = sep.data.toList.map fun b => (b.toNat : Int) := hs.symm
      rw [hs']
      rfl
    have hjl : (Lib.join (xs.map (·.data.toList)) sep.data.toList).length ≤ 281474976710656 := by
      have := hle.2
      rw [hv, List.length_map] at this
      exact this
    have hll : xs.length ≤ 140737488355328 := by have := hle.1; rw [← hxs] at this; simpa using this
    refine .inl ⟨⟨Body.n156 ρ, by rw [show (joinSp f).f = ρ.f 156 from hf.symm]; exact L.f156, rfl, by kernel_rfl⟩, ?_⟩
    have hfin : ∀ (w' : World), Below w.heap.size w w' → ∃ σ' h', Ext w σ h w' σ' h' ∧ SRel σ' h' (finSt 0 (joinSp f).ps (joinSp f).r y) (args.push (.string ⟨(Lib.join (xs.map (·.data.toList)) sep.data.toList).toArray⟩)) w' := fun w' hb => by
      refine fin2 (r := .str) (y := y) rfl rfl rfl S hsz hb ⟨_, rfl, ?_⟩
      simp only [Rel]
      refine ⟨_, rfl, ?_, ?_⟩
      · rw [← hx, hv]; rfl
      · have h2 : maxLen = 9223372036854775807 := rfl
        show (Lib.join (xs.map (·.data.toList)) sep.data.toList).toArray.size ≤ maxLen
        rw [List.size_toArray]
        omega
    have hcall : Calls P (ρ.f 156) args w fun e w' => e = .returned (.string ⟨(Lib.join (xs.map (·.data.toList)) sep.data.toList).toArray⟩) ∧ Below w.heap.size w w' := by
      rw [hargs, hlx]
      cases hxs0 : xs with
      | nil =>
        refine (Any.strings_Join_none L X a cap sep w).mono fun e w' ⟨he, hw'⟩ => ⟨by rw [he]; rfl, hw' ▸ Below.refl _ _⟩
      | cons z r =>
        obtain ⟨b, off, rfl, hcell⟩ := hd (by rw [hxs0]; simp)
        rw [← hxs0]
        have hc : ∀ (j : Nat) x, xs[j]? = some x → σ b (off + j) = some (.string x) := fun j x hj => hcell j _ (by simp [hj])
        exact Any.strings_Join_48 L X b off cap xs sep w (fun j x hj => S.inv.sta _ _ _ (hc j x hj)) (S.inv.ltσ (hc 0 z (by rw [hxs0]; rfl))) hll (hlx ▸ ho.1) hjl
    rw [show (joinSp f).f = ρ.f 156 from hf.symm]
    exact hcall.mono fun e w' ⟨he, hb⟩ => by rw [he]; exact hfin w' hb⟩
end Go.Proofs.Bw
namespace Go.Proofs.YtfpmemeahnbmfaaDoor.S
open Go Go.Proofs Go.Proofs.Bw Go.Shelf
set_option maxRecDepth 100000
def jren : Ren := ⟨fun | 156 => 31 | 165 => 37 | 166 => 38 | 169 => 39 | 240 => 47 | 241 => 48 | 276 => 52 | 277 => 53 | n => n, fun | 31 => 22 | 9 => 9 | 3 => 3 | 4 => 4 | 0 => 0 | 20 => 20 | 72 => 50 | 76 => 54 | 70 => 47 | 37 => 48 | 75 => 53 | 127 => 63 | 164 => 67 | 5 => 5 | 80 => 56 | n => n, fun n => n⟩
theorem jlays : Lays.n156 Tryd.prog jren where
  mixed := by kernel_rfl
  f156 := Tryd.func31.trans (congrArg some (by kernel_rfl))
  f165 := Tryd.func37.trans (congrArg some (by kernel_rfl))
  f166 := Tryd.func38.trans (congrArg some (by kernel_rfl))
  f169 := Tryd.func39.trans (congrArg some (by kernel_rfl))
  f240 := Tryd.func47.trans (congrArg some (by kernel_rfl))
  f241 := Tryd.func48.trans (congrArg some (by kernel_rfl))
  f276 := Tryd.func52.trans (congrArg some (by kernel_rfl))
  f277 := Tryd.func53.trans (congrArg some (by kernel_rfl))
  t0 := Tryd.underlying0
  a0 := Tryd.isAgg0
  z0 := Tryd.sizeOf0
  v0 := Tryd.zeroValue0
  t3 := Tryd.underlying3
  a3 := Tryd.isAgg3
  z3 := Tryd.sizeOf3
  v3 := Tryd.zeroValue3
  t4 := Tryd.underlying4
  a4 := Tryd.isAgg4
  z4 := Tryd.sizeOf4
  v4 := Tryd.zeroValue4
  t9 := Tryd.underlying9
  a9 := Tryd.isAgg9
  z9 := Tryd.sizeOf9
  v9 := Tryd.zeroValue9
  t20 := Tryd.underlying20
  a20 := Tryd.isAgg20
  z20 := Tryd.sizeOf20
  v20 := Tryd.zeroValue20
  t31 := Tryd.underlying22
  a31 := Tryd.isAgg22
  z31 := Tryd.sizeOf22
  v31 := Tryd.zeroValue22
  t37 := Tryd.underlying48
  a37 := Tryd.isAgg48
  z37 := Tryd.sizeOf48
  v37 := Tryd.zeroValue48
  t70 := Tryd.underlying47
  a70 := Tryd.isAgg47
  z70 := Tryd.sizeOf47
  v70 := Tryd.zeroValue47
  t72 := Tryd.underlying50
  a72 := Tryd.isAgg50
  z72 := Tryd.sizeOf50
  v72 := Tryd.zeroValue50
  t75 := Tryd.underlying53
  a75 := Tryd.isAgg53
  z75 := Tryd.sizeOf53
  v75 := Tryd.zeroValue53
  t76 := Tryd.underlying54
  a76 := Tryd.isAgg54
  z76 := Tryd.sizeOf54
  v76 := Tryd.zeroValue54
  t127 := Tryd.underlying63
  a127 := Tryd.isAgg63
  z127 := Tryd.sizeOf63
  v127 := Tryd.zeroValue63
  t164 := Tryd.underlying67
  a164 := Tryd.isAgg67
  z164 := Tryd.sizeOf67
  v164 := Tryd.zeroValue67
theorem jextra : Builder.Extra Tryd.prog jren where
  sizeBuilder := by kernel_rfl
  liesBuilder := by kernel_rfl
  t5 := Tryd.underlying5
  a5 := Tryd.isAgg5
  z5 := Tryd.sizeOf5
  v5 := Tryd.zeroValue5
  infoByte := by kernel_rfl
  cellsByte := by kernel_rfl
  sizeByte := by kernel_rfl
  neB5 := by decide
theorem join_meets_seat : Meets Tryd.prog (joinSp 31) := join_meets jlays jextra rfl
end Go.Proofs.YtfpmemeahnbmfaaDoor.S

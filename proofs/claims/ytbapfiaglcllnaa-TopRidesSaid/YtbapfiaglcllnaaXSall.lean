import Derived.Test.YtbapfiaglcllnaaProg
import Derived.Test.YtbapfiaglcllnaaChecked
import Derived.Shelf.SlSortCmp.WholeK
import Derived.Test.YtbapfiaglcllnaaGDG
import Derived.Test.YtbapfiaglcllnaaXT24a
import Derived.Shelf.SlSortCmp.NoneTotal
section
namespace Go.Proofs.Ytbapfiaglcllnaa.D
open Go Go.Shelf Go.Proofs
def sortR_ren : Go.Shelf.Ren := ⟨fun | 6 => 40 | 15 => 76 | 14 => 75 | 28 => 113 | 29 => 114 | 20 => 105 | 21 => 106 | 22 => 107 | 23 => 108 | 24 => 109 | 25 => 110 | 26 => 111 | 27 => 112 | 46 => 132 | 47 => 133 | 48 => 134 | 49 => 135 | 50 => 136 | 57 => 142 | n => n, fun | 22 => 24 | 24 => 40 | 25 => 86 | 3 => 3 | 39 => 142 | 0 => 0 | 53 => 168 | 55 => 69 | 4 => 4 | 46 => 176 | 45 => 175 | 50 => 63 | 5 => 5 | 9 => 9 | 66 => 199 | 70 => 203 | 76 => 209 | 77 => 210 | n => n, fun n => n⟩
theorem sortR : SlLaysF0.n6 Try.prog sortR_ren where
  mixed := by kernel_rfl
  f6 := ⟨Try.f40.name, by decide +kernel, Try.func40.trans (congrArg some (by kernel_rfl))⟩
  f14 := ⟨Try.f75.name, by decide +kernel, Try.func75.trans (congrArg some (by kernel_rfl))⟩
  f15 := Try.func76.trans (congrArg some (by kernel_rfl))
  f20 := ⟨Try.f105.name, by decide +kernel, Try.func105.trans (congrArg some (by kernel_rfl))⟩
  f21 := ⟨Try.f106.name, by decide +kernel, Try.func106.trans (congrArg some (by kernel_rfl))⟩
  f22 := ⟨Try.f107.name, by decide +kernel, Try.func107.trans (congrArg some (by kernel_rfl))⟩
  f23 := ⟨Try.f108.name, by decide +kernel, Try.func108.trans (congrArg some (by kernel_rfl))⟩
  f24 := ⟨Try.f109.name, by decide +kernel, Try.func109.trans (congrArg some (by kernel_rfl))⟩
  f25 := ⟨Try.f110.name, by decide +kernel, Try.func110.trans (congrArg some (by kernel_rfl))⟩
  f26 := ⟨Try.f111.name, by decide +kernel, Try.func111.trans (congrArg some (by kernel_rfl))⟩
  f27 := ⟨Try.f112.name, by decide +kernel, Try.func112.trans (congrArg some (by kernel_rfl))⟩
  f28 := Try.func113.trans (congrArg some (by kernel_rfl))
  f29 := Try.func114.trans (congrArg some (by kernel_rfl))
  f46 := ⟨Try.f132.name, by decide +kernel, Try.func132.trans (congrArg some (by kernel_rfl))⟩
  f47 := Try.func133.trans (congrArg some (by kernel_rfl))
  f48 := Try.func134.trans (congrArg some (by kernel_rfl))
  f49 := ⟨Try.f135.name, by decide +kernel, Try.func135.trans (congrArg some (by kernel_rfl))⟩
  f50 := ⟨Try.f136.name, by decide +kernel, Try.func136.trans (congrArg some (by kernel_rfl))⟩
  f57 := ⟨Try.f142.name, by decide +kernel, Try.func142.trans (congrArg some (by kernel_rfl))⟩
  t0 := Try.underlying0
  a0 := Try.isAgg0
  z0 := Try.sizeOf0
  v0 := Try.zeroValue0
  t3 := Try.underlying3
  a3 := Try.isAgg3
  z3 := Try.sizeOf3
  v3 := Try.zeroValue3
  t4 := Try.underlying4
  a4 := Try.isAgg4
  z4 := Try.sizeOf4
  v4 := Try.zeroValue4
  t5 := Try.underlying5
  a5 := Try.isAgg5
  z5 := Try.sizeOf5
  v5 := Try.zeroValue5
  t9 := Try.underlying9
  a9 := Try.isAgg9
  z9 := Try.sizeOf9
  v9 := Try.zeroValue9
  t22 := Try.underlying24
  a22 := Try.isAgg24
  z22 := Try.sizeOf24
  v22 := Try.zeroValue24
  t25 := Try.underlying86
  a25 := Try.isAgg86
  z25 := Try.sizeOf86
  v25 := Try.zeroValue86
  t39 := Try.underlying142
  a39 := Try.isAgg142
  z39 := Try.sizeOf142
  v39 := Try.zeroValue142
  t45 := Try.underlying175
  a45 := Try.isAgg175
  z45 := Try.sizeOf175
  v45 := Try.zeroValue175
  t46 := Try.underlying176
  a46 := Try.isAgg176
  z46 := Try.sizeOf176
  v46 := Try.zeroValue176
  t50 := Try.underlying63
  a50 := Try.isAgg63
  z50 := Try.sizeOf63
  v50 := Try.zeroValue63
  t53 := Try.underlying168
  a53 := Try.isAgg168
  z53 := Try.sizeOf168
  v53 := Try.zeroValue168
  t55 := Try.underlying69
  a55 := Try.isAgg69
  z55 := Try.sizeOf69
  v55 := Try.zeroValue69
  t66 := Try.underlying199
  a66 := Try.isAgg199
  z66 := Try.sizeOf199
  v66 := Try.zeroValue199
  t70 := Try.underlying203
  a70 := Try.isAgg203
  z70 := Try.sizeOf203
  v70 := Try.zeroValue203
  t76 := Try.underlying209
  a76 := Try.isAgg209
  z76 := Try.sizeOf209
  v76 := Try.zeroValue209
  t77 := Try.underlying210
  a77 := Try.isAgg210
  z77 := Try.sizeOf210
  v77 := Try.zeroValue210
end Go.Proofs.Ytbapfiaglcllnaa.D
end

section
namespace Go.Proofs.Ytbapfiaglcllnaa.D
set_option maxRecDepth 10000
open Go Go.GD Go.Proofs Go.Shelf Go.RowKit Go.Lib Go.Sort
theorem grown_of {w w' : World} (hs : w.heap.size ≤ w'.heap.size) (hH : ∀ b, b < w.heap.size → w'.heap[b]? = w.heap[b]?) (hio : SameIO w w') : ∃ q os', w' = grow (w.drewN q) os' := by
  refine ⟨w'.drawn - w.drawn, w'.heap.extract w.heap.size w'.heap.size, ?_⟩
  obtain ⟨h1, h2, h3, h4⟩ := hio
  have hh : w'.heap = w.heap ++ w'.heap.extract w.heap.size w'.heap.size := by
    apply Array.ext_getElem?
    intro i
    rw [Array.getElem?_append]
    by_cases hi : i < w.heap.size
    · rw [if_pos hi, hH i hi]
    · rw [if_neg hi, Array.getElem?_extract]
      by_cases h2 : i < w'.heap.size
      · rw [if_pos (by omega), show w.heap.size + (i - w.heap.size) = i by omega]
      · rw [if_neg (by omega), Array.getElem?_eq_none (by omega)]
  show w' = { heap := w.heap ++ _, tape := w.tape, drawn := w.drawn + (w'.drawn - w.drawn), os := w.os, output := w.output }
  rw [← hh, ← h1, ← h2, ← h3, show w.drawn + (w'.drawn - w.drawn) = w'.drawn by omega]
noncomputable def sortD {α : Type} [Inhabited α] (cf : α → α → Int) (xs : List α) : List α := (Sort.pdq (ltOf cf) xs.toArray 0 xs.length (Lib.bitLen xs.length) true true).toList
theorem sortD_perm {α : Type} [Inhabited α] {cf : α → α → Int} (hO : SWO (ltOf cf)) (xs : List α) : (sortD cf xs).Perm xs ∧ SortedIn (ltOf cf) 0 xs.length (sortD cf xs).toArray := by
  have h := pdq_sorts (ltOf cf) hO xs.toArray 0 xs.length (Lib.bitLen xs.length) true true (Nat.zero_le _) (Nat.le_refl _) (Or.inl rfl)
  obtain ⟨⟨h1, _, h2⟩, h3⟩ := h
  refine ⟨?_, by unfold sortD; simpa using h3⟩
  unfold sortD
  have e1 : (Sort.pdq (ltOf cf) xs.toArray 0 xs.length (Lib.bitLen xs.length) true true).extract 0 xs.length = Sort.pdq (ltOf cf) xs.toArray 0 xs.length (Lib.bitLen xs.length) true true := by
    rw [Array.extract_eq_self_of_le]; rw [h1]; simp
  rw [e1] at h2
  simpa using h2
set_option maxHeartbeats 1000000 in
theorem sort_run {ρ : Ren} (L : SlLaysF0.n6 Try.prog ρ) (k : Nat) (hk0 : k ≠ 0) (aE : ∀ w, (isAgg (ρ.t 24)).run Try.prog w = .ok true w) (zE : ∀ w, (Go.sizeOf (ρ.t 24)).run Try.prog w = .ok k w) {t : Ty} [Inhabited t.den] (enc : t.den → List Value) (hk : ∀ x, (enc x).length = k) (h1 : ∀ x, ∀ v ∈ enc x, v.oneCell' = true)
    (hts : t.size = k) (hrep : ∀ w Ok x, RepC Try.prog t w Ok (enc x) x) (hagg : t.isAgg = true) (cf : t.den → t.den → Int) (hO : SWO (ltOf cf)) (g : Nat) {own : Bool} {φ : (pk [t, t]).den → Option Int} (hcal : Callable Try.prog g) (hD : Does Try.prog g [t, t] [.int .i64] own φ) (hφ : ∀ x y, φ (x, y) = some (cf x y))
    {w : World} {a : Option Addr} {cap : Nat} {xs : List t.den} {B : Nat → Prop} (hold : HoldS k w B (fun cs x => cs = enc x) a xs.length cap xs) (hlen : xs.length < 4611686018427387904) :
    Calls Try.prog (ρ.f 6) #[.slice a xs.length cap, .func (.func g) #[] #[]] w fun ex w' => ex = .returned (.tuple #[]) ∧ HoldS k w' B (fun cs x => cs = enc x) a xs.length cap (sortD cf xs) ∧ w.heap.size ≤ w'.heap.size ∧ (∀ c, c < w.heap.size → ¬ B c → w'.heap[c]? = w.heap[c]?) ∧ SameIO w w' := by
  have hpl : (sortD cf xs).length = xs.length := (sortD_perm hO xs).1.length_eq
  by_cases h0 : xs.length = 0
  · have hx : xs = [] := List.eq_nil_of_length_eq_zero h0
    have hsd : sortD cf xs = [] := List.eq_nil_of_length_eq_zero (by omega)
    rw [hsd]
    rw [h0] at hold ⊢
    refine (AnyF.slices_SortFunc_none L a cap (.func (.func g) #[] #[]) w).mono ?_
    rintro ex w' ⟨rfl, rfl⟩
    exact ⟨rfl, by rw [hx] at hold; exact hold, Nat.le_refl _, fun _ _ _ => rfl, .refl _⟩
  obtain ⟨_, hlc, hmem⟩ := hold
  rcases hmem with hc | ⟨⟨b, off, sp⟩, rfl, hsp, hB, ⟨vs, e, hh, hfit⟩, hrows⟩
  · omega
  have hsp : sp = none := hsp
  subst hsp
  have hblk := heap_lt hh
  have hvs : vs = vs.toList.toArray := by simp
  have hfr : ∀ o, w.frozen? ⟨b, o, none⟩ = false := fun o => by simp [World.frozen?, hh]
  have hkpos : 0 < k := Nat.pos_of_ne_zero hk0
  have hH : HoldsK enc k w b off xs.toArray := by
    intro j hj
    rw [size_flatK] at hj
    have hj : j < xs.length * k := by simpa using hj
    have hi : j / k < xs.length := (Nat.div_lt_iff_lt_mul hkpos).2 hj
    have hm : j % k < k := Nat.mod_lt _ hkpos
    refine ⟨?_, hfr _⟩
    obtain ⟨cs, q1, q2, rfl⟩ := hrows (j / k) hi
    have := q2 (j % k) hm
    have hdm : off + (j / k) * k + j % k = off + j := by have := Nat.div_add_mod j k; rw [Nat.mul_comm] at this; omega
    simp only at this
    rw [hdm] at this
    rw [this, get_flatK _ _ _ _ (by simpa using hj)]
    have e1 : xs.toArray[j / k]! = xs[j / k] := by simp [hi]
    rw [e1, List.getElem?_eq_getElem (by rw [hk]; exact hm)]
    simp [hk, hm]
  have eg : ∀ args w, (callFunc g args).run Try.prog w = .ok (.enter g args) w := fun args w => hcal.run args w
  have hgrow : ∀ (W : World) (x y : t.den), Calls Try.prog g #[.agg (enc x).toArray, .agg (enc y).toArray] W fun e w' => e = .returned (.int .i64 (cf x y)) ∧ ∃ q os', w' = grow (W.drewN q) os' := by
    intro W x y
    have hav : (argVals [t, t] (enc x ++ enc y)).toArray = #[.agg (enc x).toArray, .agg (enc y).toArray] := by
      have l1 : (enc x).length = t.size := by rw [hk, hts]
      have l2 : (enc y).length = t.size := by rw [hk, hts]
      have e1 : (enc x ++ enc y).take t.size = enc x := by rw [← l1, List.take_left]
      have e2 : (enc x ++ enc y).drop t.size = enc y := by rw [← l1, List.drop_left]
      simp only [argVals, e1, e2, take_all l2]
      simp [mkV, hagg]
    rw [← hav]
    refine (hD W (fun _ => True) (enc x ++ enc y) (x, y) (cf x y) ⟨_, _, rfl, hrep _ _ _, hrep _ _ _⟩ (hφ x y)).mono ?_
    rintro e w' ⟨us, g', rfl, ⟨_, _, hu⟩, z1, z2, _, z4⟩
    have hu : us = [.int .i64 (cf x y)] := hu
    subst hu
    exact ⟨rfl, grown_of z1 z2 z4⟩
  have hcmp : CmpLays Try.prog g #[] enc k cf b off xs.toArray.size w := by
    intro m os dk hs x y
    have := hgrow (sortWorldK enc k w b off m dk os) x y
    simpa using this
  refine (AnyQ.slices_SortFunc_eq L k aE zE enc hk h1 cf hO g #[] b off cap xs.toArray w eg hcmp hH hblk (by simpa using hlen)).mono ?_
  rintro ex w' ⟨rfl, n, os, hw⟩
  have hpd : Sort.pdq (ltOf cf) xs.toArray 0 xs.toArray.size (Lib.bitLen xs.toArray.size) true true = (sortD cf xs).toArray := by
    unfold sortD; simp
  rw [hpd] at hw
  have hds : (sortD cf xs).toArray.size = xs.toArray.size := by simp [hpl]
  have hHk : HoldsK enc k w' b off (sortD cf xs).toArray := by
    rw [hw]
    exact holdsK_grow _ _ _ _ _ _ _ (by rw [show (putRowK enc k (Sort.ahead w n) b off (sortD cf xs).toArray).heap.size = w.heap.size from by unfold putRowK; rw [size_putRow]; rfl]; exact hblk) (holdsK_putRowK _ _ _ _ _ xs.toArray _ (holdsK_ahead _ _ _ _ _ _ _ hH) hds)
  have hheap : w'.heap = (w.heap.modify b (onCells (putCells id off (flatK enc k (sortD cf xs).toArray)))) ++ os := by rw [hw]; rfl
  have hsz : w.heap.size ≤ w'.heap.size := by rw [hheap]; simp
  have hb' : w'.heap[b]? = some (.cells (putCells id off (flatK enc k (sortD cf xs).toArray) vs) e (0, 0)) := by
    rw [hheap, Array.getElem?_append, if_pos (by simpa using hblk), Array.getElem?_modify, if_pos rfl, hh]
    rfl
  refine ⟨rfl, ⟨hpl, hlc, .inr ⟨⟨b, off, none⟩, rfl, rfl, hB, ⟨_, e, hb', by simpa [putCells] using hfit⟩, fun i hi => ⟨enc (sortD cf xs)[i], hk _, fun j hj => ?_, rfl⟩⟩⟩, hsz, fun c hc hn => ?_, ?_⟩
  · have hi' : i < (sortD cf xs).toArray.size := by simpa using hi
    have := (HoldsK.cell hHk hi' hj).1
    rw [this]
    have e1 : (sortD cf xs).toArray[i]! = (sortD cf xs)[i] := by simp [hi]
    rw [e1, List.getElem?_eq_getElem (by rw [hk]; exact hj)]
    simp [hk, hj]
  · have hcb : ¬ b = c := fun e => hn (e ▸ hB)
    rw [hheap, Array.getElem?_append, if_pos (by simpa using hc), Array.getElem?_modify, if_neg hcb]
  · rw [hw]
    exact ⟨rfl, rfl, rfl, Nat.le_add_right _ _⟩
end Go.Proofs.Ytbapfiaglcllnaa.D
end

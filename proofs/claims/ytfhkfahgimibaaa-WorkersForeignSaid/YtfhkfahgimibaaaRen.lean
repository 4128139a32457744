/- Labels under other names. -/
import Derived.Test.YtfhkfahgimibaaaState
namespace Go.QL

mutual
/-- Labels get other names. -/
def ren (f : List Nat) : AV → AV
  | .vl x => .vl x
  | .any => .any
  | .ce => .ce
  | .sl es => .sl (renEs f es)
  | .dp cs => .dp (rens f cs)
  | .ptr l off => .ptr (f.getD l 0) off
  | .agg cs => .agg (rens f cs)
  | .tup cs => .tup (rens f cs)
  | .fn g a b => .fn g (rens f a) (rens f b)
  | .osl sz l off len cap => .osl sz (f.getD l 0) off len cap
  | .mp l => .mp (f.getD l 0)
  | .imp es => .imp es
  | .gd g x => .gd g (ren f x)
def renEs (f : List Nat) : List (List AV) → List (List AV)
  | [] => []
  | e :: es => rens f e :: renEs f es
def rens (f : List Nat) : List AV → List AV
  | [] => []
  | x :: xs => ren f x :: rens f xs
end

theorem renEs_len (f : List Nat) : ∀ es : List (List AV), (renEs f es).length = es.length
  | [] => rfl
  | _ :: es => by simp [renEs, renEs_len f es]

theorem rens_len (f : List Nat) : ∀ xs : List AV, (rens f xs).length = xs.length
  | [] => rfl
  | _ :: xs => by simp [rens, rens_len f xs]

mutual
/-- What has no labels keeps its name. -/
theorem ren_lb (f : List Nat) : ∀ x : AV, lb 0 x → ren f x = x
  | .vl x, _ => rfl
  | .any, _ => rfl
  | .ce, _ => rfl
  | .sl es, h => by simp only [ren, renEs_lb f es h]
  | .dp cs, h => by simp only [ren, rens_lb f cs h]
  | .ptr l off, h => absurd h (Nat.not_lt_zero _)
  | .agg cs, h => by simp only [ren, rens_lb f cs h]
  | .tup cs, h => by simp only [ren, rens_lb f cs h]
  | .fn g a b, h => by simp only [ren, rens_lb f a h.1, rens_lb f b h.2]
  | .osl sz l off len cap, h => absurd h (Nat.not_lt_zero _)
  | .mp l, h => absurd h (Nat.not_lt_zero _)
  | .imp es, h => by simp [ren]
  | .gd g x, h => by simp only [ren, ren_lb f x h]
theorem renEs_lb (f : List Nat) : ∀ es : List (List AV), lbEs 0 es → renEs f es = es
  | [], _ => rfl
  | e :: es, h => by simp only [renEs, rens_lb f e h.1, renEs_lb f es h.2]
theorem rens_lb (f : List Nat) : ∀ xs : List AV, lbs 0 xs → rens f xs = xs
  | [], _ => rfl
  | x :: xs, h => by simp only [rens, ren_lb f x h.1, rens_lb f xs h.2]
end

section
variable {w : World} {M : Nat → Prop} {ρ ρc : Nat → Option Nat} {f : List Nat} {n : Nat}

mutual
theorem Den.ren (h : ∀ l, l < n → ρc l = ρ (f.getD l 0)) : ∀ (x : AV) (y : Value), lb n x → (Den ⟨w, M, ρc⟩ x y ↔ Den ⟨w, M, ρ⟩ (ren f x) y)
  | .vl x, y, _ => by simp [Den, Go.QL.ren]
  | .any, y, _ => by simp [Den, Go.QL.ren]
  | .ce, y, _ => by simp [Den, Go.QL.ren]
  | .sl es, y, hl => by
    simp only [Den, Go.QL.ren, lb, renEs_len] at hl ⊢
    refine exists_congr fun a => exists_congr fun cap => and_congr_right fun _ => and_congr_right fun _ => and_congr_right fun _ => or_congr ?_ ?_
    · cases es <;> simp [renEs]
    · exact exists_congr fun b => exists_congr fun off => exists_congr fun sz => and_congr_right fun _ => and_congr_right fun _ => and_congr_right fun _ => DenEs.ren h es b off sz hl
  | .dp cs, y, hl => by
    simp only [Den, Go.QL.ren, lb] at hl ⊢
    exact exists_congr fun b => exists_congr fun off => and_congr_right fun _ => and_congr_right fun _ => and_congr_right fun _ => DenCs.ren h cs b off hl
  | .ptr l off, y, hl => by
    simp only [Den, Go.QL.ren, lb] at hl ⊢
    rw [h l hl]
  | .agg cs, y, hl => by
    simp only [Den, Go.QL.ren, lb] at hl ⊢
    exact exists_congr fun vs => and_congr_right fun _ => DenL.ren h cs _ hl
  | .tup cs, y, hl => by
    simp only [Den, Go.QL.ren, lb] at hl ⊢
    exact exists_congr fun vs => and_congr_right fun _ => DenL.ren h cs _ hl
  | .fn g a b, y, hl => by
    simp only [Den, Go.QL.ren, lb] at hl ⊢
    exact exists_congr fun fs => exists_congr fun cs => and_congr_right fun _ => and_congr (DenL.ren h a _ hl.1) (DenL.ren h b _ hl.2)
  | .osl sz l off len cap, y, hl => by
    simp only [Den, Go.QL.ren, lb] at hl ⊢
    rw [h l hl]
  | .mp l, y, hl => by
    simp only [Den, Go.QL.ren, lb] at hl ⊢
    rw [h l hl]
  | .imp _, y, hl => by
    simp only [Den, Go.QL.ren]
  | .gd g x, y, hl => by
    simp only [Den, Go.QL.ren, lb] at hl ⊢
    exact and_congr (imp_congr Iff.rfl (Den.ren h x y hl)) Iff.rfl
theorem DenEs.ren (h : ∀ l, l < n → ρc l = ρ (f.getD l 0)) : ∀ (es : List (List AV)) (b off sz : Nat), lbEs n es → (DenEs ⟨w, M, ρc⟩ es b off sz ↔ DenEs ⟨w, M, ρ⟩ (renEs f es) b off sz)
  | [], _, _, _, _ => by simp [DenEs, renEs]
  | e :: es, b, off, sz, hl => by
    simp only [DenEs, renEs, lbEs, rens_len] at hl ⊢
    exact and_congr_right fun _ => and_congr (DenCs.ren h e b off hl.1) (DenEs.ren h es b (off + sz) sz hl.2)
theorem DenCs.ren (h : ∀ l, l < n → ρc l = ρ (f.getD l 0)) : ∀ (cs : List AV) (b off : Nat), lbs n cs → (DenCs ⟨w, M, ρc⟩ cs b off ↔ DenCs ⟨w, M, ρ⟩ (rens f cs) b off)
  | [], _, _, _ => by simp [DenCs, rens]
  | x :: cs, b, off, hl => by
    simp only [DenCs, rens, lbs] at hl ⊢
    exact and_congr (exists_congr fun y => and_congr_right fun _ => and_congr_right fun _ => Den.ren h x y hl.1) (DenCs.ren h cs b (off + 1) hl.2)
theorem DenL.ren (h : ∀ l, l < n → ρc l = ρ (f.getD l 0)) : ∀ (cs : List AV) (vs : List Value), lbs n cs → (DenL ⟨w, M, ρc⟩ cs vs ↔ DenL ⟨w, M, ρ⟩ (rens f cs) vs)
  | [], [], _ => by simp [DenL, rens]
  | [], _ :: _, _ => by simp [DenL, rens]
  | _ :: _, [], _ => by simp [DenL, rens]
  | x :: cs, y :: vs, hl => by
    simp only [DenL, rens, lbs] at hl ⊢
    exact and_congr (Den.ren h x y hl.1) (DenL.ren h cs vs hl.2)
end

def renBx (f : List Nat) : Bx → Bx
  | .cs c => .cs (rens f c)
  | .mp es => .mp (es.map fun e => (e.1, Go.QL.ren f e.2))
  | .yc b y => .yc b y

theorem rens_map (f : List Nat) : ∀ xs : List AV, rens f xs = xs.map (Go.QL.ren f)
  | [] => rfl
  | x :: xs => by simp [rens, rens_map f xs]

theorem BxOK.ren (h : ∀ l, l < n → ρc l = ρ (f.getD l 0)) {l : Nat} {x : Bx} (hl : l < n) (hx : lbBx n x) : BxOK ⟨w, M, ρc⟩ l x ↔ BxOK ⟨w, M, ρ⟩ (f.getD l 0) (renBx f x) := by
  cases x with
  | cs c =>
    simp only [BxOK, renBx, lbBx, rens_len] at hx ⊢
    rw [h l hl]
    refine or_congr (and_congr ?_ Iff.rfl) ?_
    · cases c <;> simp [rens]
    · exact exists_congr fun b => exists_congr fun vs => exists_congr fun T => and_congr_right fun _ => and_congr_right fun _ => and_congr_right fun _ => and_congr_right fun _ => and_congr_right fun _ => DenL.ren h c _ hx
  | mp es =>
    simp only [BxOK, renBx, lbBx] at hx ⊢
    rw [h l hl]
    have e1 : (es.map fun e => (e.1, Go.QL.ren f e.2)).map (·.1) = es.map (·.1) := by simp
    have e2 : (es.map fun e => (e.1, Go.QL.ren f e.2)).map (·.2) = rens f (es.map (·.2)) := by rw [rens_map]; simp
    rw [e1, e2]
    exact exists_congr fun b => exists_congr fun ents => exists_congr fun clock => and_congr_right fun _ => and_congr_right fun _ => and_congr_right fun _ => and_congr_right fun _ => and_congr_right fun _ => and_congr_right fun _ => DenL.ren h _ _ hx
  | yc b y =>
    simp only [BxOK, renBx]
    rw [h l hl]
end
end Go.QL

/- A function's code from a place in it on: the piece that lies there, and what goes on behind it. A loop, one round opened. -/
import Derived.Test.YtdnbagcbdagofaaVVsSub
import Derived.Test.YtdnbagcbdagofaaVVsLoop
namespace Go.Vs
variable {m : Bool}
/-- The block around a place, which names its loop. -/
def blkAt : Nat → Code → List Nat → Nat
  | b, _, [] => b
  | b, .seq x y, n :: r => if n = 0 then blkAt b x r else blkAt b y r
  | b, .cond _ x y, n :: r => if n = 0 then blkAt b x r else blkAt b y r
  | _, .block id x, _ :: r => blkAt id x r
  | b, .loop x, _ :: r => blkAt b x r
  | b, _, _ => b
def loopK2 {β : Type} (ts bs : List Nat) (L : (St m) → Option β) (k : (Out m) → Option β) : (Out m) → Option β
  | .norm s => (s.again ts bs).bind L
  | .exit id s => k (.exit id s)
  | .ret s => k (.ret s)
/-- What goes on behind a place. -/
noncomputable def contK {β : Type} (P : Program) (D : (Oracle m)) (H : Hints) : Nat → Code → List Nat → ((Out m) → Option β) → (Out m) → Option β
  | _, _, [], k => k
  | b, .seq x y, n :: r, k => if n = 0 then contK P D H b x r (seqK (fun s => code2K P D H limR b y s k) k) else contK P D H b y r k
  | b, .cond _ x y, n :: r, k => if n = 0 then contK P D H b x r k else contK P D H b y r k
  | _, .block id x, _ :: r, k => contK P D H id x r (blockK id k)
  | b, .loop x, _ :: r, k => contK P D H b x r (loopK2 (H.clear b) (H.drop b) (fun s => code2K P D H limR b (.loop x) s k) k)
  | _, _, _, k => k
noncomputable def atF (P : Program) (D : (Oracle m)) (H : FuncId → Hints) (f : FuncId) (p : List Nat) (n : Nat) (s : (St m)) : Option ((SV m) × List (List (SV m))) :=
  code2K P D ((H f).fit (fnOf P f).ntmps) limR (blkAt 0 (bodyOf P f) p) (sub (bodyOf P f) p) s (contK P D ((H f).fit (fnOf P f).ntmps) 0 (bodyOf P f) p (endK P (fnOf P f) n))

/-- A loop, one round opened, and what goes on behind it. -/
theorem loop_open {β : Type} (P : Program) (D : (Oracle m)) (H : Hints) (b : Nat) (c : Code) (s : (St m)) (k : (Out m) → Option β) :
    code2K P D H limR b (.loop c) s k = (s.again (H.clear b) (H.drop b)).bind fun s => code2K P D H limR b c s (loopK2 (H.clear b) (H.drop b) (fun s => code2K P D H limR b (.loop c) s k) k) := by
  have h0 : ∀ s, code2K P D H limR b (.loop c) s k = (loopV P D H b c s).bind k := fun s => rfl
  rw [h0, loopV_open]
  unfold roundV
  rw [Option.bind_assoc]
  congr 1
  funext s'
  rw [code2_bind]
  congr 1
  funext o
  cases o with
  | norm s2 =>
    simp only [loopK, loopK2, Option.bind_assoc]
    congr 1
  | exit id s2 => rfl
  | ret s2 => rfl
theorem atF_loop {P : Program} {D : (Oracle m)} {H : FuncId → Hints} {f : FuncId} {p : List Nat} {c : Code} (hc : sub (bodyOf P f) p = .loop c) (n : Nat) (s : (St m)) :
    atF P D H f p n s = (s.again (((H f).fit (fnOf P f).ntmps).clear (blkAt 0 (bodyOf P f) p)) (((H f).fit (fnOf P f).ntmps).drop (blkAt 0 (bodyOf P f) p))).bind fun s =>
      code2K P D ((H f).fit (fnOf P f).ntmps) limR (blkAt 0 (bodyOf P f) p) c s (loopK2 (((H f).fit (fnOf P f).ntmps).clear (blkAt 0 (bodyOf P f) p)) (((H f).fit (fnOf P f).ntmps).drop (blkAt 0 (bodyOf P f) p))
        (fun s => code2K P D ((H f).fit (fnOf P f).ntmps) limR (blkAt 0 (bodyOf P f) p) (.loop c) s (contK P D ((H f).fit (fnOf P f).ntmps) 0 (bodyOf P f) p (endK P (fnOf P f) n))) (contK P D ((H f).fit (fnOf P f).ntmps) 0 (bodyOf P f) p (endK P (fnOf P f) n))) := by
  unfold atF
  rw [hc]
  exact loop_open _ _ _ _ _ _ _
end Go.Vs

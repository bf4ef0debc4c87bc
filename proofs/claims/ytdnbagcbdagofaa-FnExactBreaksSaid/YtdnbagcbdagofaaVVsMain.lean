/- The shadow runner is sound: what it tells of a call, the machine does. -/
import Derived.Test.YtdnbagcbdagofaaVVsRun
namespace Go.Vs
variable {m : Bool}
variable {P : Program}

/-- What is told otherwise than by a function's text is so, too. -/
def TSound (P : Program) (T : (Told m)) : Prop := ∀ (f : FuncId) t, T f = some t → DSound P (fun g args boxes => if g = f then t args boxes else none)

theorem call_sound (hP : P.follows .mixedOrders = true) (hG : P.funcs.all (fun fn => !(fn.name == "runtime.NumGoroutine")) = true) {T : (Told m)} (hT : TSound P T) (H : FuncId → Hints) : ∀ n, DSound P (callN P T H n)
  | 0 => by intro N f args boxes r hr; simp [callN] at hr
  | n + 1 => by
    intro N f args boxes r hr
    simp only [callN] at hr
    split at hr
    · rename_i t ht
      exact hT f t ht N f args boxes r (by simpa using hr)
    · exact run_sound hP hG (call_sound hP hG hT H n) H n N f args boxes r hr

/-- One more round, one more call: nothing told turns. -/
def Le {α : Type} (x y : Option α) : Prop := ∀ a, x = some a → y = some a
theorem tsound_none : TSound (m := m) P (fun _ => none) := by intro f t h; simp at h
end Go.Vs

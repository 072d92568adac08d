/-
  No contract of the shelf is used here.
-/
import Derived.Lib.IndexMore
import Derived.Test.YtkmechkafhblpaaProg

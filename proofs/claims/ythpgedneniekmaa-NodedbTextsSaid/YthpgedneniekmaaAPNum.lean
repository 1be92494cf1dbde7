import Derived.Test.YthpgedneniekmaaAPWide
/- wide.Num: in PWide. -/
